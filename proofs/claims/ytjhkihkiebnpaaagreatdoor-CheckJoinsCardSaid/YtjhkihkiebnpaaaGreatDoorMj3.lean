/-
  Package expr's apply: the kids are read.
-/
import Derived.Test.YtjhkihkiebnpaaaGreatDoorMj0
import Derived.Test.YtjhkihkiebnpaaaGreatDoorMj1
import Derived.Maps.AppendAt
import Derived.Deep.AppendLies
import Derived.Deep.RegionLaw
import Derived.Deep.RegionHeld
import Derived.Lib.ParseIntB
import Derived.Lib.Bytealg
import Derived.Deep.DeepCutAuto
import Derived.Lib.AppendIntMem
import Derived.Lib.ItoaLen
import Derived.StillTailTactics
import Derived.Lib.Join
import Derived.Test.YtjhkihkiebnpaaaGreatDoorRows
set_option linter.unusedVariables false
set_option linter.unusedSimpArgs false
set_option maxRecDepth 100000
set_option maxHeartbeats 40000000
namespace Go.Proofs.YtjhkihkiebnpaaaGreatDoor
open Go.RowKit
theorem wH:(Tryz.prog.info? 38).map (fun i=>(i.zero,i.size,i.bytes))=some (some (.agg #[.int .i64 0,.string ByteArray.empty,.int .i64 0,.slice none 0 0]),4,56):=by kernel_rfl
theorem kF {w:World} {p k:Nat} {x0 x1 x2 x3:Value} (h:k≠p):(qL w p x0 x1 x2 x3).heap[k]?=w.heap[k]?:=by
 simp only[qL,World.setCell,Array.getElem?_modify]
 rw[if_neg (by omega),if_neg (by omega),if_neg (by omega),if_neg (by omega)]
theorem rO {w:World} {p:Nat} {x0 x1 x2 x3:Value}:(qL w p x0 x1 x2 x3).heap.size=w.heap.size:=by simp[qL,World.setCell]
theorem P8 {w:World} {B n:Nat} {e:TypeId} {z:Nat} {v:Value} {xs:List Value} (h:w.ownsRow B e z v n xs) {p:Addr} (u:Value)(hp:p.block<B):(w.setCell p u).ownsRow B e z v n xs:=by
 obtain⟨h1,h2⟩:=h
 refine⟨h1,?_⟩
 rcases h2 with h2|⟨g,cap,cur,e1,hb,hg,r⟩
 ·exact .inl h2
 ·exact .inr ⟨g,cap,cur,e1,hb,(aI w p u g (by omega)).trans hg,r⟩
theorem JZ {wr w3 w6:World} {v v':Value} {base:Nat} {ps:List EP} {x:EP}
 (hxk:∀ p∈ps,jG wr (fun k=>base≤k∧k<wr.heap.size∧v.ownBlock≠some k) p.2.1 p.1.kids)
 (hx:jG w3 (fun k=>wr.heap.size≤k∧k<w3.heap.size) x.2.1 x.1.kids)(hbase:base≤wr.heap.size)
 (h1:∀ k,base≤k→k<wr.heap.size→v.ownBlock≠some k→w6.heap[k]?=wr.heap[k]?)(h2:∀ k,wr.heap.size≤k→k<w3.heap.size→w6.heap[k]?=w3.heap[k]?)
 (hs:wr.heap.size≤w3.heap.size)(hs6:w3.heap.size≤w6.heap.size)(hv1:∀ k,v.ownBlock=some k→k<wr.heap.size)(hv:v'.ownBlock=v.ownBlock∨∃ n,v'.ownBlock=some n∧w3.heap.size≤n) :
 ∀ p∈ps++[x],jG w6 (fun k=>base≤k∧k<w6.heap.size∧v'.ownBlock≠some k) p.2.1 p.1.kids:=by
 intro p hp
 rcases cu.1 hp with hp|hp
 ·refine ((hxk p hp).kept fun k hk=>h1 k hk.1 hk.2.1 hk.2.2).mono fun k hk=>⟨hk.1,by have:=hk.2.1;omega,?_⟩
  rcases hv with hv|⟨n,hv,hn⟩
  ·rw[hv];exact hk.2.2
  ·rw[hv];intro e;have:=aY e;have:=hk.2.1;omega
 ·obtain rfl:p=x:=by simpa using hp
  refine (hx.kept fun k hk=>h2 k hk.1 hk.2).mono fun k hk=>⟨by have:=hk.1;omega,by have:=hk.2;omega,?_⟩
  rcases hv with hv|⟨n,hv,hn⟩
  ·rw[hv];intro e;have:=hv1 k e;have:=hk.1;omega
  ·rw[hv];intro e;have:=aY e;have:=hk.2;omega
theorem NH (s:ByteArray)(n:Int)(x:T)(ks:List T)(a:Int)(hk2:x.k=2)(hc0:gX x.s.toList≠0)(heq:ks.length=gX x.s.toList)(hM:∀ t∈ks,wG t)(A:Option Addr)(c:Nat)(w:World)(hcap:(x::ks).length≤c)(hA:fA w w.heap.size A (x::ks)) :
 Calls Tryz.prog 141 #[.agg #[.int .i64 1,.string s,.int .i64 n,.slice A (x::ks).length c,.int .i64 a]] w (nC (if (eH ks).2.1=0 then (.mk 4 x.s 0 (eH ks).1,0,0) else (zeroE,(eH ks).2.1,(eH ks).2.2)) w):=by
 obtain⟨m,em⟩:∃ m,m=ks.length:=⟨_,rfl⟩
 have hlen:(x::ks).length≤9223372036854775807:=hA.len
 rw[←em] at heq
 simp only[bf,←em] at hlen hcap ⊢
 obtain⟨w1,dZ⟩:∃ w1,w1=(w.alloc (.cells #[.int .i64 1,.string s,.int .i64 n,.slice A (m+1) c,.int .i64 a] 71)).alloc (.cells #[.int .i64 0,.string ⟨#[]⟩,.int .i64 0,.slice none 0 0] 38):=⟨_,rfl⟩
 have hb1:Below w.heap.size w w1:=by rw[dZ];exact ((aG _ _).alloc (aF _) _).alloc (by simp) _
 have hws:w1.heap.size=w.heap.size+2:=by rw[dZ];simp
 have HB1:=ae hb1
 have hB:Hid (w1.heap[w.heap.size+1]?=some (.cells #[.int .i64 0,.string ⟨#[]⟩,.int .i64 0,.slice none 0 0] 38 (0,0))):=ae (by
  rw[dZ]
  have:=aH (w.alloc (.cells #[.int .i64 1,.string s,.int .i64 n,.slice A (m+1) c,.int .i64 a] 71)) (.cells #[.int .i64 0,.string ⟨#[]⟩,.int .i64 0,.slice none 0 0] 38)
  simpa using this)
 have rq:Hid (w1.cell? ⟨w.heap.size,3,none⟩=some (.slice A (m+1) c)∧w1.cell? ⟨w.heap.size,4,none⟩=some (.int .i64 a)):=ae (by rw[dZ];simp)
 have HW1:=ae dZ
 have HK:=ae ((hA.low hb1).more hb1.size)
 obtain⟨b,o,A',c',rfl,hlt,x0,x1,_,_,_,_,_⟩:=((hA.low hb1).more hb1.size).gy w1 (aG _ _) 0 x rfl
 rw[Nat.zero_mul,Nat.add_zero] at x0 x1
 have hm0:(0:Int)<((m+1:Nat):Int):=by omega
 have hm1:(((m+1:Nat):Int)==0)=false:=by simp;omega
 obtain⟨xk,xs,xn,xl,xa⟩:=x
 simp only[T.k,T.s] at x0 x1 hk2 hc0 heq ⊢
 subst hk2
 have hC:=ae (count_any xs)
 have NI:m≤3:=by
  have hcb:gX xs.toList≤3:=by
   unfold gX
   repeat' split
   all_goals omega
  omega
 generalize gX xs.toList=cn at *
 have hcz:((cn:Int)==0)=false:=by simp;omega
 have hn1:((m:Int) != (cn:Int))=false:=by simp;omega
 have HM:=ae hM
 have yt:=ae em
 have ada:0<m:=by omega
 obtain⟨Q,hQ⟩:∃ Q:E×Int×Int,Q=(if (eH ks).2.1=0 then (.mk 4 xs 0 (eH ks).1,0,0) else (zeroE,(eH ks).2.1,(eH ks).2.2)):=⟨_,rfl⟩
 have HQ:=ae hQ
 rw[←hQ]
 clear hA em dZ hb1 hc0 heq hM hQ
 have hb2:Below w1.heap.size w1 (w1.alloc (.cells #[.int .i64 4,.string xs,.int .i64 0,.slice none 0 0] 38)):=(aG _ _).alloc (aF _) _
 have hB2:Hid ((w1.alloc (.cells #[.int .i64 4,.string xs,.int .i64 0,.slice none 0 0] 38)).heap[w.heap.size+1]?=some (.cells #[.int .i64 0,.string ⟨#[]⟩,.int .i64 0,.slice none 0 0] 38 (0,0))):=ae ((hb2.block _ (by omega)).trans hB.o)
 have HD2:Hid ((w1.alloc (.cells #[.int .i64 4,.string xs,.int .i64 0,.slice none 0 0] 38)).cell? ⟨w.heap.size,3,none⟩=some (.slice (some ⟨b,o,none⟩) (m+1) c)∧(w1.alloc (.cells #[.int .i64 4,.string xs,.int .i64 0,.slice none 0 0] 38)).cell? ⟨w.heap.size,4,none⟩=some (.int .i64 a)) :=
  ae ⟨(hb2.cell (p:=⟨w.heap.size,3,none⟩) (show w.heap.size<_ by omega)).trans rq.o.1,(hb2.cell (p:=⟨w.heap.size,4,none⟩) (show w.heap.size<_ by omega)).trans rq.o.2⟩
 have HE2:Hid ((w1.alloc (.cells #[.int .i64 4,.string xs,.int .i64 0,.slice none 0 0] 38)).cell? ⟨w.heap.size+2,1,none⟩=some (.string xs)):=ae (by rw[←hws];simp)
 have HB2:=ae (HB1.o.trans (hb2.mono (by omega)))
 have iI:Hid ((w1.alloc (.cells #[.int .i64 4,.string xs,.int .i64 0,.slice none 0 0] 38)).heap[w.heap.size+2]?=some (.cells #[.int .i64 4,.string xs,.int .i64 0,.slice none 0 0] 38 (0,0))):=ae (by rw[←hws];exact aH w1 _)
 have HS2:Hid ((w1.alloc (.cells #[.int .i64 4,.string xs,.int .i64 0,.slice none 0 0] 38)).heap.size=w.heap.size+3):=ae (by simp;omega)
 have Xr:=ae hb2
 clear hb2
 go_enter Tryz.func141,Tryz.ntmps141
 go_upto_region 1 with (fail)
 rw[←HW1.o]
 obtain⟨d3,d4⟩:=rq.o
 go_wp2_with fail
 refine (hC.o _).mono ?_
 rintro e w2 ⟨rfl,rfl⟩
 go_upto_region 4 with (fail)
 generalize (w1.alloc (.cells #[.int .i64 4,.string xs,.int .i64 0,.slice none 0 0] 38))=w2 at *
 obtain⟨y3,y4⟩:=HD2.o
 have y1:=HE2.o
 obtain⟨⟨k0,k1,k2,k3⟩,f0,f1,f2,f3⟩:=fQ hB2.o
 clear x0 x1 hlt d3 d4
 go_quiet ((go_at_call 131;exact Calls.quiet_of_same ((hC.o _).mono fun e w' ⟨h1,h2⟩=>⟨h1,h2.symm⟩)))
 generalize hwq:w2.drewN nq=wq at *
 have hsq:wq.heap.size=w.heap.size+3:=by rw[←hwq];exact HS2.o
 have HXQ:Hid (wq.heap[w.heap.size+2]?=some (.cells #[.int .i64 4,.string xs,.int .i64 0,.slice none 0 0] 38 (0,0))):=ae (by rw[←hwq];exact iI.o)
 have HRQ:Hid (wq.heap[w.heap.size+1]?=some (.cells #[.int .i64 0,.string ⟨#[]⟩,.int .i64 0,.slice none 0 0] 38 (0,0))):=ae (by rw[←hwq];exact hB2.o)
 have uI:Hid (Below w.heap.size w wq):=ae (by rw[←hwq];exact below_drewN HB2.o _)
 have Xt:Hid (Below w1.heap.size w1 wq):=ae (by rw[←hwq];exact below_drewN Xr.o _)
 have z3:wq.cell? ⟨w.heap.size,3,none⟩=some (.slice (some ⟨b,o,none⟩) (m+1) c):=by rw[←hwq];exact HD2.o.1
 have ZD:=ae z3
 have hcc:m+1≤c:=hcap
 have hc1:(1:Int)≤((m+1:Nat):Int):=by omega
 clear hwq iI HS2 Xr hB2 HB2 HD2 HE2 y3 y4 y1 k0 k1 k2 k3 f0 f1 f2 f3
 go_wp2_with fail
 go_loopw [56] (fun i wr=>∃ (j:Nat)(ps:List EP)(v:Value),j≤m∧ps.length=j∧i=.int .i64 j∧wr.heap[w.heap.size+2]?=some (.cells #[.int .i64 4,.string xs,.int .i64 0,v] 38 (0,0)) ∧
  wr.ownsRow wq.heap.size 38 4 v j (kN ps)∧Hid (∀ p∈ps,jG wr (fun k=>wq.heap.size≤k∧k<wr.heap.size∧v.ownBlock≠some k) p.2.1 p.1.kids)∧Below (w.heap.size+2) wq wr ∧
  Hid (eH ks=(ps.map Prod.fst++(eH (ks.drop j)).1,(eH (ks.drop j)).2.1,(eH (ks.drop j)).2.2))) (fun i _=>m-(intOf i).toNat)
 case atStart=>exact⟨0,[],.slice none 0 0,aX _,rfl,rfl,HXQ.o,World.ownsRow_nil _ _ _ _,ae (fun p hp=>by cases hp),aG _ _,ae rfl⟩
 case round =>
  obtain⟨j,ps,v,hj,hpl,rfl,hbox,hown,hxk,hb,hzl⟩:=hrel
  have HO:=ae hown
  have HB:=ae hb
  have hs:=hb.size
  have lV:=ae hpl
  have jW:=ae hbox
  clear hown hpl
  by_cases hlt2:j<m
  ·obtain⟨x,hx⟩:∃ x,ks[j]?=some x:=⟨_,aO (by rw[←yt.o];exact hlt2)⟩
   have Uj:Below w1.heap.size w1 wr:=Xt.o.trans (hb.mono (by omega))
   obtain⟨b',o',A',c',hb',_,c1,c2,c3,c4,c5,hcx,hKx⟩:=HK.o.gy wr Uj (j+1) x (by simpa using hx)
   injection hb' with hb'
   injection hb' with hbb hoo
   subst hbb hoo
   rw[show o+(j+1)*5=o+5+j*5 by omega] at c1 c2 c3 c4 c5
   have Dv:=HM.o x (aN hx)
   have hst:Hid (eH (ks.drop j)=if (dX x).2.1=0 then ((dX x).1::(eH (ks.drop (j+1))).1,(eH (ks.drop (j+1))).2.1,(eH (ks.drop (j+1))).2.2) else ([],(dX x).2.1,(dX x).2.2)):=ae (by
    obtain⟨g1,g2⟩:=aV.1 hx
    rw[bY g1,g2,eH])
   clear hx
   obtain⟨tk,ts,tn,tl,ta⟩:=x
   simp only[T.k,T.s,T.n,T.kids,T.at_] at c1 c2 c3 c4 c5 hKx hcx
   have hba:Below wr.heap.size wr (wr.alloc (.cells #[.int .i64 tk,.string ts,.int .i64 tn,.slice A' tl.length c',.int .i64 ta] 71)):=(aG _ _).alloc (aF _) _
   have HBA:=ae hba
   have hcl:=ae (Dv A' c' (wr.alloc (.cells #[.int .i64 tk,.string ts,.int .i64 tn,.slice A' tl.length c',.int .i64 ta] 71)) hcx ((hKx.low hba).more hba.size))
   simp only[T.val,T.k,T.s,T.n,T.kids,T.at_] at hcl
   generalize hq:dX (.mk tk ts tn tl ta)=tq at *
   generalize tl.length=tm at *
   obtain⟨⟨ek,es,en,el⟩,wy,at2⟩:=tq
   simp only[E.val,E.k,E.s,E.n,E.kids] at hcl hst
   have Xu:=hzl
   clear hKx Dv hbox hba hcx hq hzl Uj
   go_wp2_with fail
   refine (hcl.o).mono ?_
   rintro e w3 ⟨⟨A3,c3',rfl,hX⟩,hb3⟩
   have II:Below wr.heap.size wr w3:=HBA.o.trans (hb3.mono HBA.o.size)
   have hx3:Below w3.heap.size w3 (w3.alloc (.cells #[.int .i64 ek,.string es,.int .i64 en,.slice A3 el.length c3'] 38)):=(aG _ _).alloc (aF _) _
   have hw3:Hid (Below wr.heap.size wr (w3.alloc (.cells #[.int .i64 ek,.string es,.int .i64 en,.slice A3 el.length c3'] 38))):=ae (II.trans (hx3.mono II.size))
   have hN3:Hid ((w3.alloc (.cells #[.int .i64 ek,.string es,.int .i64 en,.slice A3 el.length c3'] 38)).heap[w3.heap.size]?=some (.cells #[.int .i64 ek,.string es,.int .i64 en,.slice A3 el.length c3'] 38 (0,0))):=ae (aH w3 _)
   have Xv:Hid ((w3.alloc (.cells #[.int .i64 ek,.string es,.int .i64 en,.slice A3 el.length c3'] 38)).heap[w.heap.size+1]?=some (.cells #[.int .i64 0,.string ⟨#[]⟩,.int .i64 0,.slice none 0 0] 38 (0,0))):=ae ((hw3.o.block _ (by omega)).trans ((HB.o.block _ (by omega)).trans HRQ.o))
   have Xw:Hid ((w3.alloc (.cells #[.int .i64 ek,.string es,.int .i64 en,.slice A3 el.length c3'] 38)).heap[w.heap.size+2]?=some (.cells #[.int .i64 4,.string xs,.int .i64 0,v] 38 (0,0))):=ae ((hw3.o.block _ (by omega)).trans jW.o)
   have hS3:Hid ((w3.alloc (.cells #[.int .i64 ek,.string es,.int .i64 en,.slice A3 el.length c3'] 38)).heap.size=w3.heap.size+1∧wr.heap.size≤w3.heap.size):=ae ⟨by simp,II.size⟩
   clear II hx3
   have hs3:=hw3.o.size
   have nO:=ae hX
   clear hX hb3 HBA
   by_cases hw0:wy=0
   ·subst hw0
    obtain⟨⟨k0,k1,k2,k3⟩,g0,g1,g2,g3⟩:=fQ Xw.o
    obtain⟨⟨n0,n1,n2,n3⟩,m0,m1,m2,m3⟩:=fQ hN3.o
    have hrl:Hid (eH ks=((ps++[((.mk ek es en el:E),A3,c3')]).map Prod.fst++(eH (ks.drop (j+1))).1,(eH (ks.drop (j+1))).2.1,(eH (ks.drop (j+1))).2.2)):=ae (by
     rw[Xu.o,hst.o,if_pos rfl];simp)
    have Nj:=ae (own_below HO.o hw3.o)
    clear hst Xu hs3
    obtain⟨i0,hi,hz0,hz1,hz2⟩:=info_parts wH
    go_wp2_with (at_builtin;refine wpList_append_own_at _ rfl _ _ 22 rfl wq.heap.size 38 i0 _ 4 56 Tryz.underlying22 hi hz0 hz1 hz2 rfl (by decide) _ _ _ rfl (Nj.o.alloc _) ⟨w3.heap.size+1,0,none⟩ 1 1 (EP.cs ((.mk ek es en el:E),A3,c3')) rfl rfl ?c1 ?c2 ?c3 ?c4 ?c5 ?_)
    case c1 =>
     intro i u hu
     match i,hu with
     | 0,hu=>simp[EP.cs,E.k] at hu;subst hu;simp[Addr.add]
     | 1,hu=>simp[EP.cs,E.s] at hu;subst hu;simp[Addr.add]
     | 2,hu=>simp[EP.cs,E.n] at hu;subst hu;simp[Addr.add]
     | 3,hu=>simp[EP.cs,E.kids] at hu;subst hu;simp[Addr.add]
    case c2=>rw[←nR];exact xE _
    case c3=>unfold maxLen;omega
    case c4=>omega
    case c5=>simp;have:=hS3.o.2;omega
    intro v' w5 hown' hgrow _ hat
    have fJ:Hid ((w3.alloc (.cells #[.int .i64 ek,.string es,.int .i64 en,.slice A3 el.length c3'] 38)).grownBy w5 v.ownBlock):=ae ((World.grownBy_alloc _ _ _).trans hgrow)
    have jP:Hid (v'.ownBlock=v.ownBlock∨∃ n,v'.ownBlock=some n∧w3.heap.size≤n):=ae (hat.imp_right fun h=>⟨_,h,by first|omega|(simp;omega)⟩)
    obtain⟨g',cap',rfl,hg1,hg2⟩:=hown'.form (by omega)
    have jq:Hid (w5.ownsRow wq.heap.size 38 4 (.slice (some ⟨g',0,none⟩) (j+1) cap') (j+1) (kN (ps++[((.mk ek es en el:E),A3,c3')]))):=ae (by rw[o8,nR,hsq];exact hown')
    clear hown' hgrow hat k0 k1 k2 k3 g0 g1 g2 g3 n0 n1 n2 n3 m0 m1 m2 m3
    have hE5:Hid (w5.heap[w.heap.size+2]?=some (.cells #[.int .i64 4,.string xs,.int .i64 0,v] 38 (0,0))):=ae ((fJ.o.block _ (by have:=hS3.o;omega) (fun e=>by have:=(HO.o.lt _ e.symm).1;omega)).trans Xw.o)
    obtain⟨⟨k0,k1,k2,k3⟩,g0,g1,g2,g3⟩:=fQ hE5.o
    go_wp2_with fail
    go_roundw
    case rel =>
     refine⟨_,_,_,_,_,_,_,_,_,_,_,_,_,_,_,_,_,_,_,_,_,_,_,_,_,_,_,_,?_,rfl⟩
     have hs5:=fJ.o.size
     have agB:=hS3.o.1
     have aak:=hS3.o.2
     have hother:∀ k,k≠w.heap.size+2→k<w3.heap.size+1→v.ownBlock≠some k→(w5.setCell ⟨w.heap.size+2,3,none⟩ (.slice (some ⟨g',0,none⟩) (j+1) cap')).heap[k]?=(w3.alloc (.cells #[.int .i64 ek,.string es,.int .i64 en,.slice A3 el.length c3'] 38)).heap[k]?:=fun k h1 h2 h3 =>
      (aI w5 ⟨w.heap.size+2,3,none⟩ _ k h1).trans (fJ.o.block k (by omega) fun e=>h3 e.symm)
     refine⟨j+1,ps++[((.mk ek es en el:E),A3,c3')],.slice (some ⟨g',0,none⟩) (j+1) cap',by omega,by rw[aZ,lV.o];rfl,by go_num,GG (k:=3) hE5.o,P8 jq.o _ (by show w.heap.size+2<wq.heap.size;omega),ae ?_,?_,hrl⟩
     ·refine JZ hxk.o (nO.o.mono fun k hk=>⟨by have:=hk.1;simp at this;omega,hk.2⟩) hs (fun k h1 h2 h3=>(hother k (by omega) (by omega) h3).trans (hw3.o.block k h2)) (fun k h1 h2=>(hother k (by omega) (by omega) fun e=>by have:=(HO.o.lt _ e).2;omega).trans (heap_alloc_old _ _ h2)) aak ?_ (fun k e=>(HO.o.lt _ e).2) jP.o
      simp only[World.setCell,Array.size_modify]
      omega
     ·exact ((HB.o.trans (hw3.o.mono (by omega))).grown fJ.o (by omega) (fun g hg=>by have:=(HO.o.lt g hg).1;omega)).setCell (p:=⟨w.heap.size+2,3,none⟩) (aF _) _
    case measure=>simp[intOf];omega
   ·have hy:(wy != 0)=true:=by simpa using hw0
    have hy':(wy==0)=false:=by simpa using hw0
    have h1:(eH ks).2=(wy,at2):=by rw[Xu.o,hst.o,if_neg hw0]
    have hq:Hid (Q=(zeroE,wy,at2)):=ae (by rw[HQ.o,h1,if_neg hw0])
    obtain⟨⟨q0,q1,q2,q3⟩,f0,f1,f2,f3⟩:=fQ Xv.o
    clear h1 hst hs3 Xu
    go_wp2_with fail
    refine aJ (eP rfl rfl rfl rfl (eY Xv.o)) rfl ?_
    refine⟨⟨none,0,by rw[hq.o];rfl,by rw[hq.o];exact .nil _⟩,fC (uI.o.trans ((HB.o.mono (by omega)).trans (hw3.o.mono (by omega)))) (aW _)⟩
  ·obtain rfl:j=m:=by omega
   obtain⟨k0,k1,k2,k3⟩:=(fQ jW.o).1
   have hd:ks.drop j=[]:=List.drop_eq_nil_of_le (by rw[←yt.o];exact aF _)
   have h1:eH ks=(ps.map Prod.fst,0,0):=by rw[hzl.o,hd];simp[eH]
   have hq:Hid (Q=(.mk 4 xs 0 (ps.map Prod.fst),0,0)):=ae (by rw[HQ.o,h1,if_pos rfl])
   have hO2:wr.ownsRow wq.heap.size 38 4 v ps.length (kN ps):=by rw[lV.o];exact HO.o
   have hlj:ps.length≤9223372036854775807:=by rw[lV.o];omega
   obtain⟨A9,c9,rfl,yu⟩:=wF hO2 hlj (S:=fun k=>wq.heap.size≤k∧k<wr.heap.size) (fun g u1 u2=>⟨u1,u2⟩) (fun p hp=>(hxk.o p hp).mono (fun k hk=>⟨hk.1,hk.2.1⟩))
   have GI:=ae yu
   have hB9:Hid (wr.heap[w.heap.size+1]?=some (.cells #[.int .i64 0,.string ⟨#[]⟩,.int .i64 0,.slice none 0 0] 38 (0,0))):=ae ((HB.o.block _ (by omega)).trans HRQ.o)
   obtain⟨⟨q0,q1,q2,q3⟩,f0,f1,f2,f3⟩:=fQ hB9.o
   clear hd h1 hO2 hlj yu hxk hzl
   go_wp2_with fail
   refine aJ (eP rfl rfl rfl rfl (eY hB9.o)) rfl ?_
   have hsz:=HB.o.size
   refine⟨⟨A9,c9,by rw[hq.o];simp[E.val,E.k,E.s,E.n,E.kids],?_⟩,fC (uI.o.trans (HB.o.mono (by omega))) (aW _)⟩
   rw[hq.o]
   exact (GI.o.kept (fun k hk=>kF (by have:=hk.1;omega))).mono (fun k hk=>⟨by have:=hk.1;omega,aQ hk.2 rO.symm⟩)
theorem GK (s:ByteArray)(n:Int)(l:List T)(a:Int):dX (.mk 1 s n l a)=(match l with
        | []=>(zeroE,12,a)
        | x::ks=>if x.k=2∧gX x.s.toList≠0 then
            (if ks.length=gX x.s.toList then (if (eH ks).2.1=0 then (.mk 4 x.s 0 (eH ks).1,0,0) else (zeroE,(eH ks).2.1,(eH ks).2.2)) else (zeroE,23,a))
          else (zeroE,12,a)):=by
 rw[dX.eq_def]
 rfl
theorem QV (s:ByteArray)(n:Int)(l:List T)(a:Int)(hM:∀ t∈l,wG t)(A:Option Addr)(c:Nat)(w:World)(hcap:l.length≤c)(hA:fA w w.heap.size A l) :
 Calls Tryz.prog 141 #[.agg #[.int .i64 1,.string s,.int .i64 n,.slice A l.length c,.int .i64 a]] w (nC (dX (.mk 1 s n l a)) w):=by
 have hr:=GK s n l a
 match l with
 | []=>rw[hr];exact GH s n [] a (.inl rfl) A c w hA
 | x::ks =>
   simp only at hr
   by_cases h1:x.k=2∧gX x.s.toList≠0
   ·rw[if_pos h1] at hr
    by_cases h2:ks.length=gX x.s.toList
    ·rw[if_pos h2] at hr
     rw[hr]
     exact NH s n x ks a h1.1 h1.2 h2 (fun t ht=>hM t (bG _ ht)) A c w hcap hA
    ·rw[if_neg h2] at hr
     rw[hr]
     exact JY s n x ks a h1.1 h1.2 h2 A c w hA
   ·rw[if_neg h1] at hr
    rw[hr]
    exact GH s n (x::ks) a (.inr ⟨x,ks,rfl,by
     by_cases h3:x.k=2
     ·exact .inr (Decidable.byContradiction fun h4=>h1 ⟨h3,h4⟩)
     ·exact .inl h3⟩) A c w hA
theorem QW (s:ByteArray)(n:Int)(l:List T)(a:Int)(hM:∀ t∈l,wG t):wG (.mk 1 s n l a):=by
 intro A c w hcap hA
 simp only[T.val,T.k,T.s,T.n,T.kids,T.at_] at hcap hA ⊢
 obtain⟨w1,dZ⟩:∃ w1,w1=(w.alloc (.cells #[.int .i64 1,.string s,.int .i64 n,.slice A l.length c,.int .i64 a] 71)).alloc (.cells #[.int .i64 0,.string ⟨#[]⟩,.int .i64 0,.slice none 0 0] 38):=⟨_,rfl⟩
 have hb1:Below w.heap.size w w1:=by rw[dZ];exact ((aG _ _).alloc (aF _) _).alloc (by simp) _
 have hws:w1.heap.size=w.heap.size+2:=by rw[dZ];simp
 have HB1:=ae hb1
 have hB:Hid (w1.heap[w.heap.size+1]?=some (.cells #[.int .i64 0,.string ⟨#[]⟩,.int .i64 0,.slice none 0 0] 38 (0,0))):=ae (by
  rw[dZ]
  have:=aH (w.alloc (.cells #[.int .i64 1,.string s,.int .i64 n,.slice A l.length c,.int .i64 a] 71)) (.cells #[.int .i64 0,.string ⟨#[]⟩,.int .i64 0,.slice none 0 0] 38)
  simpa using this)
 have rq:Hid (w1.cell? ⟨w.heap.size,0,none⟩=some (.int .i64 1)∧w1.cell? ⟨w.heap.size,1,none⟩=some (.string s)∧w1.cell? ⟨w.heap.size,2,none⟩=some (.int .i64 n)∧w1.cell? ⟨w.heap.size,3,none⟩=some (.slice A l.length c)∧w1.cell? ⟨w.heap.size,4,none⟩=some (.int .i64 a)):=ae (by rw[dZ];simp)
 have HW1:=ae dZ
 have hcl:=ae (QV s n l a hM A c w1 hcap ((hA.low hb1).more hb1.size))
 generalize dX (.mk 1 s n l a)=q at *
 generalize l.length=ln at *
 clear hA dZ hb1 hM
 obtain⟨⟨qk,qs,qn,ql⟩,wy,at2⟩:=q
 unfold nC at hcl
 simp only[E.val,E.k,E.s,E.n,E.kids] at hcl ⊢
 go_enter Tryz.func106,Tryz.ntmps106
 go_upto_if 7 with (fail)
 rw[←HW1.o]
 obtain⟨d0,d1,d2,d3,d4⟩:=rq.o
 go_wp2_with fail
 refine (hcl.o).mono ?_
 rintro e w2 ⟨⟨A3,c3,rfl,hX⟩,hb2⟩
 have HX:=ae hX
 have HB2:=ae hb2
 have hB2:Hid (w2.heap[w.heap.size+1]?=some (.cells #[.int .i64 0,.string ⟨#[]⟩,.int .i64 0,.slice none 0 0] 38 (0,0))):=ae ((hb2.block _ (by omega)).trans hB.o)
 have hs2:=hb2.size
 clear hX hb2 d0 d1 d2 d3 d4
 obtain⟨⟨k0,k1,k2,k3⟩,f0,f1,f2,f3⟩:=fQ hB2.o
 go_wp2_with fail
 refine aJ (eP rfl rfl rfl rfl (eY hB2.o)) rfl ?_
 refine⟨⟨A3,c3,rfl,?_⟩,fC (HB1.o.trans (HB2.o.mono (by omega))) (aW _)⟩
 exact (HX.o.kept fun k hk=>kF (by have:=hk.1;omega)).mono fun k hk=>⟨by have:=hk.1;omega,aQ hk.2 rO.symm⟩
theorem Uk:∀ t,wG t:=T.ind fun k s n l a ih=>by
 by_cases hk:k=1
 ·subst hk
  exact QW s n l a ih
 ·exact QU k s n l a hk
abbrev TP:=T×Option Addr×Nat
def TP.cs (x:TP):List Value:=[.int .i64 x.1.k,.string x.1.s,.int .i64 x.1.n,.slice x.2.1 x.1.kids.length x.2.2,.int .i64 x.1.at_]
def ed (l:List TP):List Value:=l.flatMap TP.cs
theorem jg (l:List TP):(ed l).length=l.length*5:=by
 induction l with
 | nil=>rfl
 | cons v l ih=>show ((TP.cs v)++ed l).length=_;simp[ih,TP.cs];omega
theorem pM (l:List TP):∀ (i:Nat)(v:TP),l[i]?=some v→(ed l)[i*5]?=some (.int .i64 v.1.k)∧(ed l)[i*5+1]?=some (.string v.1.s)∧(ed l)[i*5+2]?=some (.int .i64 v.1.n)∧(ed l)[i*5+3]?=some (.slice v.2.1 v.1.kids.length v.2.2)∧(ed l)[i*5+4]?=some (.int .i64 v.1.at_):=by
 induction l with
 | nil=>intro i v h;simp at h
 | cons x l ih =>
   intro i v h
   have e:ed (x::l)=TP.cs x++ed l:=rfl
   rw[e]
   cases i with
   | zero =>
     obtain rfl:x=v:=by simpa using h
     exact⟨rfl,rfl,rfl,rfl,rfl⟩
   | succ i =>
     have:=ih i v (by simpa using h)
     have hl:(TP.cs x).length=5:=rfl
     rw[bK (by omega),bK (by omega),bK (by omega),bK (by omega),bK (by omega),hl]
     rw[show (i+1)*5-5=i*5 from by omega,show (i+1)*5+1-5=i*5+1 from by omega,show (i+1)*5+2-5=i*5+2 from by omega,show (i+1)*5+3-5=i*5+3 from by omega,show (i+1)*5+4-5=i*5+4 from by omega]
     exact this
theorem fB (v:TP):ed [v]=TP.cs v:=by simp[ed]
theorem jv (a b:List TP):ed (a++b)=ed a++ed b:=by simp[ed]
theorem fF (l:List TP):∀ u∈ed l,u.oneCell'=true:=by
 intro u hu
 obtain⟨v,_,hv⟩:=List.mem_flatMap.1 hu
 simp only[TP.cs,bZ,bI,or_false] at hv
 rcases hv with rfl|rfl|rfl|rfl|rfl <;> rfl
inductive mQ (w:World)(S:Nat→Prop):Option Addr→List T→Prop
 | nil (A:Option Addr):mQ w S A []
 | mk (b off:Nat)(l:List T)(hn:l.length≤9223372036854775807)(hb:S b)(A:Nat→Option Addr)(c:Nat→Nat)
    (h:∀ i e,l[i]?=some e→w.cell? ⟨b,off+i*5,none⟩=some (.int .i64 e.k)∧w.cell? ⟨b,off+i*5+1,none⟩=some (.string e.s) ∧
      w.cell? ⟨b,off+i*5+2,none⟩=some (.int .i64 e.n)∧w.cell? ⟨b,off+i*5+3,none⟩=some (.slice (A i) e.kids.length (c i))∧w.cell? ⟨b,off+i*5+4,none⟩=some (.int .i64 e.at_)∧e.kids.length≤c i)
    (hk:∀ i e,l[i]?=some e→mQ w S (A i) e.kids):mQ w S (some ⟨b,off,none⟩) l
theorem mQ.kept {w w':World} {S:Nat→Prop} {A:Option Addr} {l:List T} (h:mQ w S A l)(hw:∀ k,S k→w'.heap[k]?=w.heap[k]?):mQ w' S A l:=by
 induction h with
 | nil A=>exact .nil A
 | mk b off l hn hlt A c h hk ih =>
   refine .mk b off l hn hlt A c (fun i e he=>?_) (fun i e he=>ih i e he)
   have hc:∀ o,w'.cell? ⟨b,o,none⟩=w.cell? ⟨b,o,none⟩:=fun o=>aT (hw b hlt)
   obtain⟨h1,h2,h3,h4,h5,h6⟩:=h i e he
   exact⟨(hc _).trans h1,(hc _).trans h2,(hc _).trans h3,(hc _).trans h4,(hc _).trans h5,h6⟩
theorem mQ.mono {w:World} {S S':Nat→Prop} {A:Option Addr} {l:List T} (h:mQ w S A l)(hS:∀ k,S k→S' k):mQ w S' A l:=by
 induction h with
 | nil A=>exact .nil A
 | mk b off l hn hlt A c h hk ih=>exact .mk b off l hn (hS b hlt) A c h (fun i e he=>ih i e he)
theorem mQ.to {w:World} {S:Nat→Prop} {B:Nat} {A:Option Addr} {l:List T} (h:mQ w S A l)(hS:∀ k,S k→k<B):fA w B A l:=by
 induction h with
 | nil A=>exact .nil A
 | mk b off l hn hlt A c h hk ih=>exact .mk b off l hn (hS b hlt) A c h (fun i e he=>ih i e he)
theorem rP {w:World} {base:Nat} {e:TypeId} {v:Value} {l:List TP} (h:w.ownsRow base e 5 v l.length (ed l))(hn:l.length≤9223372036854775807) {S:Nat→Prop} (hS:∀ g,base≤g→g<w.heap.size→S g)(hk:∀ x∈l,x.1.kids.length≤x.2.2∧mQ w S x.2.1 x.1.kids) :
 ∃ A c,v=.slice A (l.map Prod.fst).length c∧(l.map Prod.fst).length≤c∧mQ w S A (l.map Prod.fst):=by
 obtain⟨_,hcase⟩:=id h
 rcases hcase with⟨rfl,h0⟩|⟨g,cap,cur,rfl,hg,hh,hc,hcap,hsz,htake⟩
 ·have e0:l=[]:=bF h0
  subst e0
  exact⟨none,0,rfl,aF _,.nil _⟩
 ·refine⟨some ⟨g,0,none⟩,cap,by rw[bM],by rw[bM];exact hc,.mk g 0 _ (by rw[bM];exact hn) ?_ (fun i=>((l[i]?).map fun x=>x.2.1).getD none) (fun i=>((l[i]?).map fun x=>x.2.2).getD 0) (fun i x hx=>?_) (fun i x hx=>?_)⟩
  ·refine hS g hg ?_
   rcases Nat.lt_or_ge g w.heap.size with hlt|hge
   ·exact hlt
   ·rw[Array.getElem?_eq_none hge] at hh;cases hh
  ·rw[bP] at hx
   cases hl:l[i]? with
   | none=>rw[hl] at hx;cases hx
   | some y =>
     rw[hl] at hx
     obtain rfl:y.1=x:=by simpa using hx
     obtain⟨f1,f2,f3,f4,f5⟩:=pM l i y hl
     have hi:i<l.length:=(aV.1 hl).1
     rw[Nat.zero_add,h.cellAt _ (by omega),h.cellAt _ (by omega),h.cellAt _ (by omega),h.cellAt _ (by omega),h.cellAt _ (by omega)]
     exact⟨f1,f2,f3,f4,f5,(hk y (aN hl)).1⟩
  ·rw[bP] at hx
   cases hl:l[i]? with
   | none=>rw[hl] at hx;cases hx
   | some y =>
     rw[hl] at hx
     obtain rfl:y.1=x:=by simpa using hx
     exact (hk y (aN hl)).2
theorem J3 {wr w3 w6:World} {v v':Value} {base:Nat} {ps:List TP} {x:TP}
 (hxk:∀ p∈ps,p.1.kids.length≤p.2.2∧mQ wr (fun k=>base≤k∧k<wr.heap.size∧v.ownBlock≠some k) p.2.1 p.1.kids)
 (Ul:x.1.kids.length≤x.2.2)(hx:mQ w3 (fun k=>wr.heap.size≤k∧k<w3.heap.size) x.2.1 x.1.kids)(hbase:base≤wr.heap.size)
 (h1:∀ k,base≤k→k<wr.heap.size→v.ownBlock≠some k→w6.heap[k]?=wr.heap[k]?)(h2:∀ k,wr.heap.size≤k→k<w3.heap.size→w6.heap[k]?=w3.heap[k]?)
 (hs:wr.heap.size≤w3.heap.size)(hs6:w3.heap.size≤w6.heap.size)(hv1:∀ k,v.ownBlock=some k→k<wr.heap.size)(hv:v'.ownBlock=v.ownBlock∨∃ n,v'.ownBlock=some n∧w3.heap.size≤n) :
 ∀ p∈ps++[x],p.1.kids.length≤p.2.2∧mQ w6 (fun k=>base≤k∧k<w6.heap.size∧v'.ownBlock≠some k) p.2.1 p.1.kids:=by
 intro p hp
 rcases cu.1 hp with hp|hp
 ·refine⟨(hxk p hp).1,((hxk p hp).2.kept fun k hk=>h1 k hk.1 hk.2.1 hk.2.2).mono fun k hk=>⟨hk.1,by have:=hk.2.1;omega,?_⟩⟩
  rcases hv with hv|⟨n,hv,hn⟩
  ·rw[hv];exact hk.2.2
  ·rw[hv];intro e;have:=aY e;have:=hk.2.1;omega
 ·obtain rfl:p=x:=by simpa using hp
  refine⟨Ul,(hx.kept fun k hk=>h2 k hk.1 hk.2).mono fun k hk=>⟨by have:=hk.1;omega,by have:=hk.2;omega,?_⟩⟩
  rcases hv with hv|⟨n,hv,hn⟩
  ·rw[hv];intro e;have:=hv1 k e;have:=hk.1;omega
  ·rw[hv];intro e;have:=aY e;have:=hk.2;omega
theorem nP {w:World} {g k:Nat} {a b c d e u:Value} {t:TypeId} (h:w.heap[g]?=some (.cells #[a,b,c,d,e] t (0,0))):(w.setCell ⟨g,k,none⟩ u).heap[g]?=some (.cells (#[a,b,c,d,e].set! k u) t (0,0)):=by
 show (w.heap.modify g _)[g]?=_
 rw[Array.getElem?_modify]
 simp[h]
def J4 (w:World)(p:Nat)(x0 x1 x2 x3 x4:Value):World:=((((w.setCell ⟨p,0,none⟩ x0).setCell ⟨p,1,none⟩ x1).setCell ⟨p,2,none⟩ x2).setCell ⟨p,3,none⟩ x3).setCell ⟨p,4,none⟩ x4
theorem dR {w:World} {p:Nat} {a b c d e x0 x1 x2 x3 x4:Value} {t:TypeId} (h:w.heap[p]?=some (.cells #[a,b,c,d,e] t (0,0))):(J4 w p x0 x1 x2 x3 x4).heap[p]?=some (.cells #[x0,x1,x2,x3,x4] t (0,0)) :=
 nP (k:=4) (nP (k:=3) (nP (k:=2) (nP (k:=1) (nP (k:=0) h))))
theorem dS {w a:World} {p B:Nat} {x0 x1 x2 x3 x4:Value} (h:Below B a w)(hp:B≤p):Below B a (J4 w p x0 x1 x2 x3 x4) :=
 ((((h.setCell (p:=⟨p,0,none⟩) hp x0).setCell (p:=⟨p,1,none⟩) hp x1).setCell (p:=⟨p,2,none⟩) hp x2).setCell (p:=⟨p,3,none⟩) hp x3).setCell (p:=⟨p,4,none⟩) hp x4
theorem nS {w:World} {p k:Nat} {x0 x1 x2 x3 x4:Value} (h:k≠p):(J4 w p x0 x1 x2 x3 x4).heap[k]?=w.heap[k]?:=by
 simp only[J4,World.setCell,Array.getElem?_modify]
 rw[if_neg (by omega),if_neg (by omega),if_neg (by omega),if_neg (by omega),if_neg (by omega)]
theorem rQ {w:World} {p:Nat} {x0 x1 x2 x3 x4:Value}:(J4 w p x0 x1 x2 x3 x4).heap.size=w.heap.size:=by simp[J4,World.setCell]
theorem dN {w:World} {g:Nat} {a b c d e:Value} {t:TypeId} (h:w.heap[g]?=some (.cells #[a,b,c,d,e] t (0,0))) :
 (w.cell? ⟨g,0,none⟩=some a∧w.cell? ⟨g,1,none⟩=some b∧w.cell? ⟨g,2,none⟩=some c∧w.cell? ⟨g,3,none⟩=some d∧w.cell? ⟨g,4,none⟩=some e)∧w.frozen? ⟨g,0,none⟩=false∧w.frozen? ⟨g,1,none⟩=false∧w.frozen? ⟨g,2,none⟩=false∧w.frozen? ⟨g,3,none⟩=false∧w.frozen? ⟨g,4,none⟩=false:=by
 simp[World.cell?,World.frozen?,h]
theorem jw {fn:Func} {p:Tmp} (h:fn.results=#[.cell p 71]) {tmps:Array Value} {w:World} {g:Nat} {x0 x1 x2 x3 x4:Value} {t:TypeId}
 (hp:tmps.getD p undef=.pointer (some ⟨g,0,none⟩))(hg:w.heap[g]?=some (.cells #[x0,x1,x2,x3,x4] t (0,0))):(results fn tmps).run Tryz.prog w=.ok (.agg #[x0,x1,x2,x3,x4]) w:=by
 have hp':tmps[p]?.getD undef=.pointer (some ⟨g,0,none⟩):=by simpa using hp
 have hl:=run_loadVar_row (P:=Tryz.prog) w g t 71 #[x0,x1,x2,x3,x4] (0,0) _ hg Tryz.underlying71 rfl (by show _=some 5;kernel_rfl)
 simp[results,h,hp',asAddr,hl]
theorem pO:(Tryz.prog.info? 71).map (fun i=>(i.zero,i.size,i.bytes))=some (some (.agg #[.int .i64 0,.string ByteArray.empty,.int .i64 0,.slice none 0 0,.int .i64 0]),5,64):=by kernel_rfl
theorem Um (l:List TP):∀ (j:Nat)(u:Value),(ed l)[j]?=some u→∃ v,l[j / 5]?=some v∧(TP.cs v)[j % 5]?=some u:=by
 induction l with
 | nil=>intro j u h;simp[ed] at h
 | cons x l ih =>
   intro j u h
   have e:ed (x::l)=TP.cs x++ed l:=rfl
   have hl:(TP.cs x).length=5:=rfl
   rw[e] at h
   rcases Nat.lt_or_ge j 5 with hj|hj
   ·rw[List.getElem?_append_left (by omega)] at h
    exact⟨x,by rw[Nat.div_eq_of_lt hj];rfl,by rw[Nat.mod_eq_of_lt hj];exact h⟩
   ·rw[bK (by omega),hl] at h
    obtain⟨v,h1,h2⟩:=ih _ _ h
    refine⟨v,?_,?_⟩
    ·rw[show j / 5=(j-5) / 5+1 by omega,List.getElem?_cons_succ];exact h1
    ·rw[show j % 5=(j-5) % 5 by omega];exact h2
theorem DC {w:World} {S:Nat→Prop} {B:Nat} (oU:∀ k,S k→k<B) {A:Option Addr} {l:List T} (h:mQ w S A l) :
 ∃ qs:List TP,qs.map Prod.fst=l∧Reads w B 5 A l.length (ed qs)∧∀ q∈qs,q.1.kids.length≤q.2.2∧mQ w S q.2.1 q.1.kids:=by
 cases h with
 | nil A=>exact⟨[],rfl,Reads.none_,fun q hq=>by cases hq⟩
 | mk b off l hn hb A c h hk =>
   refine⟨l.mapIdx fun i e=>(e,A i,c i),?_,⟨?_,fun _=>⟨⟨b,off,none⟩,rfl,oU b hb,fun j u hu=>?_⟩⟩,fun q hq=>?_⟩
   ·apply List.ext_getElem?
    intro i
    rw[bP,List.getElem?_mapIdx]
    cases l[i]? <;> rfl
   ·rw[jg];simp
   ·obtain⟨v,h1,h2⟩:=Um _ j u hu
    rw[List.getElem?_mapIdx] at h1
    cases hl:l[j / 5]? with
    | none=>rw[hl] at h1;cases h1
    | some e =>
      rw[hl] at h1
      obtain rfl:=aY h1
      obtain⟨g1,g2,g3,g4,g5,_⟩:=h _ e hl
      have hadd:(⟨b,off,none⟩:Addr).add j=⟨b,off+j,none⟩:=by unfold Addr.add;split <;> simp_all
      rw[hadd,show off+j=off+j / 5*5+j % 5 by omega]
      have hr:j % 5<5:=Nat.mod_lt _ (by decide)
      generalize j % 5=r at *
      match r,hr,h2 with
      | 0,_,h2=>rw[Nat.add_zero,g1,←h2];rfl
      | 1,_,h2=>rw[g2,←h2];rfl
      | 2,_,h2=>rw[g3,←h2];rfl
      | 3,_,h2=>rw[g4,←h2];rfl
      | 4,_,h2=>rw[g5,←h2];rfl
   ·obtain⟨i,hi⟩:=List.mem_iff_getElem?.1 hq
    rw[List.getElem?_mapIdx] at hi
    cases hl:l[i]? with
    | none=>rw[hl] at hi;cases hi
    | some e =>
      rw[hl] at hi
      obtain rfl:=aY hi
      exact⟨(h i e hl).2.2.2.2.2,hk i e hl⟩
theorem GL (l:List TP):∀ (i:Nat)(v:TP)(ks:List T)(A:Option Addr)(c:Nat),l[i]?=some v →
 (ed l).set (i*5+3) (.slice A ks.length c)=ed (l.set i ((.mk v.1.k v.1.s v.1.n ks v.1.at_:T),A,c)):=by
 induction l with
 | nil=>intro i v ks A c h;simp at h
 | cons x l ih =>
   intro i v ks A c h
   have e:ed (x::l)=TP.cs x++ed l:=rfl
   have hl:(TP.cs x).length=5:=rfl
   cases i with
   | zero =>
     obtain rfl:x=v:=by simpa using h
     rw[e,List.set_append_left _ _ (by omega),ay]
     rfl
   | succ i =>
     rw[e,List.set_append_right _ _ (by omega),hl,show (i+1)*5+3-5=i*5+3 by omega,ih i v ks A c (by simpa using h),az]
     rfl
theorem IK {w:World} {base:Nat} {e:TypeId} {g cap m:Nat} {ps:List TP} (h:w.ownsRow base e 5 (.slice (some ⟨g,0,none⟩) m cap) m (ed ps)) {i:Nat} {p:TP} (hi:ps[i]?=some p)(ks:List T)(A:Option Addr)(c:Nat) :
 (w.setCell ⟨g,i*5+3,none⟩ (.slice A ks.length c)).ownsRow base e 5 (.slice (some ⟨g,0,none⟩) m cap) m (ed (ps.set i ((.mk p.1.k p.1.s p.1.n ks p.1.at_:T),A,c))):=by
 obtain⟨h1,h2⟩:=h
 have hlen:=jg ps
 refine⟨by rw[jg,List.length_set,←hlen];exact h1,.inr ?_⟩
 rcases h2 with⟨h',_⟩|⟨g',cap',cur,h',hb,hg,hnc,hcm,hcs,htake⟩
 ·simp at h'
 ·simp only[Value.slice.injEq,Option.some.injEq,Addr.mk.injEq,and_true,true_and] at h'
  obtain⟨rfl,rfl⟩:=h'
  refine⟨g,cap,cur.setIfInBounds (i*5+3) (.slice A ks.length c),rfl,hb,JI.FY hg _ _,hnc,hcm,by simpa using hcs,?_⟩
  rw[Array.toList_setIfInBounds,List.take_set,htake,GL ps i p ks A c hi]
theorem J5 {w:World} {base:Nat} {e:TypeId} {g cap m:Nat} {ps:List TP} (h:w.ownsRow base e 5 (.slice (some ⟨g,0,none⟩) m cap) m (ed ps))(hm:ps.length=m) {k:Nat} (hk:k≤m) :
 w.ownsRow base e 5 (.slice (some ⟨g,0,none⟩) k cap) k (ed (ps.take k)):=by
 obtain⟨h1,h2⟩:=h
 refine⟨by rw[jg,List.length_take];congr 1;omega,.inr ?_⟩
 rcases h2 with⟨h',_⟩|⟨g',cap',cur,h',hb,hg,hnc,hcm,hcs,htake⟩
 ·simp at h'
 ·simp only[Value.slice.injEq,Option.some.injEq,Addr.mk.injEq,and_true,true_and] at h'
  obtain⟨rfl,rfl⟩:=h'
  refine⟨g,cap,cur,rfl,hb,hg,by omega,hcm,hcs,?_⟩
  have e1:ed ps=ed (ps.take k)++ed (ps.drop k):=by rw[←jv,List.take_append_drop]
  have e2:(ed (ps.take k)).length=k*5:=by rw[jg,List.length_take];congr 1;omega
  have e3:List.take (k*5) cur.toList=List.take (k*5) (List.take (m*5) cur.toList):=by rw[List.take_take];congr 1;omega
  rw[e3,htake,e1,List.take_left' e2]
end Go.Proofs.YtjhkihkiebnpaaaGreatDoor
namespace Go.Proofs.YtjhkihkiebnpaaaGreatDoor
open Go.RowKit
def o9 (c:UInt8):Bool:=decide (97≤(c.toNat:Int))&&decide ((c.toNat:Int)≤122)
def oO (c:UInt8):Bool:=decide (48≤(c.toNat:Int))&&decide ((c.toNat:Int)≤57)
def bt (s:ByteArray)(i:Nat):UInt8:=if h:i<s.size then s[i] else 0
theorem uw {s:ByteArray} {i:Nat} (h:i<s.size):bt s i=s[i]:=dif_pos h
def kP (p:UInt8→Bool)(s:ByteArray)(i:Nat):Nat:=if i<s.size then (if p (bt s i) then kP p s (i+1) else i) else i
termination_by s.size-i
theorem yG {p:UInt8→Bool} {s:ByteArray} {i:Nat} (h:¬i<s.size):kP p s i=i:=by rw[kP,if_neg h]
theorem wI {p:UInt8→Bool} {s:ByteArray} {i:Nat} (h:p (bt s i)=false):kP p s i=i:=by
 rw[kP]
 split
 ·rw[h];rfl
 ·rfl
theorem rU {p:UInt8→Bool} {s:ByteArray} {i:Nat} (h:i<s.size)(hp:p (bt s i)=true):kP p s i=kP p s (i+1):=by
 rw[kP,if_pos h,hp]
 rfl
theorem qM {p:UInt8→Bool} {s:ByteArray}:∀ (n i:Nat),s.size-i=n→i≤kP p s i∧(i≤s.size→kP p s i≤s.size)
 | n,i,hn=>by
   by_cases h:i<s.size
   ·cases hp:p (bt s i)
    ·rw[wI hp];exact⟨aF _,fun h=>h⟩
    ·obtain⟨m,rfl⟩:∃ m,n=m+1:=⟨n-1,by omega⟩
     have:=qM (p:=p) (s:=s) m (i+1) (by omega)
     rw[rU h hp]
     exact⟨by omega,fun _=>this.2 (by omega)⟩
   ·rw[yG h];exact⟨aF _,fun h=>h⟩
theorem P9 {p:UInt8→Bool} {s:ByteArray} {i:Nat} (h:i<s.size)(hp:p (bt s i)=true):i<kP p s i:=by
 rw[rU h hp]
 have:=(qM (p:=p) (s:=s) _ (i+1) rfl).1
 omega
def l7 (s:ByteArray)(i:Nat):Nat:=if ((bt s i).toNat:Int)=45 then i+1 else i
def jX (s:ByteArray)(i:Nat):Option (Int×Nat) :=
 if kP oO s (l7 s i)=l7 s i then none else
  match Lib.parseIntB 64 (s.extract i (kP oO s (l7 s i))).data.toList with
  | .ok v=>some (v,kP oO s (l7 s i))
  | _=>none
def hexDigits:ByteArray:=⟨#[48,49,50,51,52,53,54,55,56,57,97,98,99,100,101,102]⟩
def mg (c:UInt8):Int:=Lib.indexByte hexDigits.data.toList c
def NJ (b:UInt8):Value:=.int .u8 (b.toNat:Int)
def DD (l:List UInt8):List Value:=l.map NJ
def Ai (a b:Int):UInt8:=UInt8.ofNat (IntKind.u8.wrap (bits .or .i64 (IntKind.i64.wrap (a*16)) b)).toNat
theorem Un (a b:Int):NJ (Ai a b)=.int .u8 (IntKind.u8.wrap (bits .or .i64 (IntKind.i64.wrap (a*16)) b)):=by
 unfold Ai NJ
 generalize bits .or .i64 (IntKind.i64.wrap (a*16)) b=x
 have h:0≤IntKind.u8.wrap x∧IntKind.u8.wrap x<256:=by
  unfold IntKind.wrap
  simp[IntKind.bits,IntKind.signed]
  omega
 congr 1
 rw[UInt8.toNat_ofNat']
 omega
def jD (s:ByteArray)(p:Nat)(i:Nat)(l:List UInt8):List UInt8×Nat×Int×Int :=
 if i<s.size then
  (if ((bt s i).toNat:Int)=34 then (if 40<l.length then ([],0,3,p) else (l,i+1,0,0))
   else if ((bt s i).toNat:Int)=92 then
    (if i+1<s.size then
      (if mg (bt s (i+1))<0 then ([],0,12,i)
       else if i+2<s.size then
        (if mg (bt s (i+2))<0 then ([],0,12,i) else jD s p (i+3) (l++[Ai (mg (bt s (i+1))) (mg (bt s (i+2)))]))
       else ([],0,10,s.size))
     else ([],0,10,s.size))
   else if ((bt s i).toNat:Int)<32∨126<((bt s i).toNat:Int) then ([],0,12,i)
   else jD s p (i+1) (l++[bt s i]))
 else ([],0,10,s.size)
termination_by s.size-i
def textE (s:ByteArray)(p:Nat):List UInt8×Nat×Int×Int:=jD s p (p+1) []
theorem Aj {s:ByteArray} {p i:Nat} {l:List UInt8} (h:¬i<s.size):jD s p i l=([],0,10,(s.size:Int)):=by rw[jD,if_neg h]
theorem uQ {s:ByteArray} {p i:Nat} {l:List UInt8} (h:i<s.size)(uJ:((bt s i).toNat:Int)=34):jD s p i l=if 40<l.length then ([],0,3,(p:Int)) else (l,i+1,0,0):=by
 rw[jD,if_pos h,if_pos uJ]
theorem wJ {s:ByteArray} {p i:Nat} {l:List UInt8} (h:i<s.size)(uJ:¬((bt s i).toNat:Int)=34)(FZ:¬((bt s i).toNat:Int)=92)(hb:((bt s i).toNat:Int)<32∨126<((bt s i).toNat:Int)):jD s p i l=([],0,12,(i:Int)):=by
 rw[jD,if_pos h,if_neg uJ,if_neg FZ,if_pos hb]
theorem xG {s:ByteArray} {p i:Nat} {l:List UInt8} (h:i<s.size)(uJ:¬((bt s i).toNat:Int)=34)(FZ:¬((bt s i).toNat:Int)=92)(hb:¬(((bt s i).toNat:Int)<32∨126<((bt s i).toNat:Int))):jD s p i l=jD s p (i+1) (l++[bt s i]):=by
 rw[jD,if_pos h,if_neg uJ,if_neg FZ,if_neg hb]
theorem wK {s:ByteArray} {p i:Nat} {l:List UInt8} (h:i<s.size)(FZ:((bt s i).toNat:Int)=92):jD s p i l =
 (if i+1<s.size then
       (if mg (bt s (i+1))<0 then ([],0,12,(i:Int))
        else if i+2<s.size then
         (if mg (bt s (i+2))<0 then ([],0,12,(i:Int)) else jD s p (i+3) (l++[Ai (mg (bt s (i+1))) (mg (bt s (i+2)))]))
        else ([],0,10,(s.size:Int)))
     else ([],0,10,(s.size:Int))):=by
 rw[jD,if_pos h,if_neg (by omega),if_pos FZ]
theorem F5 {s:ByteArray} {p i m:Nat} {l:List UInt8} (h:i<s.size)(FZ:((bt s i).toNat:Int)=92)(hm:m=1∨m=2)(hp:m=2→i+1<s.size∧¬mg (bt s (i+1))<0) :
 (¬i+m<s.size→jD s p i l=([],0,10,(s.size:Int)))∧(i+m<s.size→mg (bt s (i+m))<0→jD s p i l=([],0,12,(i:Int))):=by
 rw[wK h FZ]
 rcases hm with rfl|rfl
 ·exact⟨fun h1=>by rw[if_neg h1],fun h1 h2=>by rw[if_pos h1,if_pos h2]⟩
 ·obtain⟨h1,h2⟩:=hp rfl
  exact⟨fun h3=>by rw[if_pos h1,if_neg h2,if_neg h3],fun h3 h4=>by rw[if_pos h1,if_neg h2,if_pos h3,if_pos h4]⟩
theorem J6 {s:ByteArray} {p i:Nat} {l:List UInt8} (h:i<s.size)(FZ:((bt s i).toNat:Int)=92)(h1:i+1<s.size)(h2:¬mg (bt s (i+1))<0)(h3:i+2<s.size)(h4:¬mg (bt s (i+2))<0) :
 jD s p i l=jD s p (i+3) (l++[Ai (mg (bt s (i+1))) (mg (bt s (i+2)))]):=by
 rw[wK h FZ,if_pos h1,if_neg h2,if_pos h3,if_neg h4]
theorem DF (s:ByteArray)(p:Nat):∀ (n i:Nat)(l:List UInt8),s.size-i=n→i≤s.size→p≤s.size→p<i→l.length≤i →
 ((jD s p i l).2.2.1=0→p<(jD s p i l).2.1∧(jD s p i l).2.1≤s.size)∧((jD s p i l).2.2.1≠0→0≤(jD s p i l).2.2.2∧(jD s p i l).2.2.2≤s.size)∧(jD s p i l).1.length≤40∧(jD s p i l).2.1≤s.size:=by
 intro n
 induction n using Nat.strongRecOn with
 | _ n ih =>
   intro i l hn hi hp hpi hl
   by_cases h:i<s.size
   ·by_cases uJ:((bt s i).toNat:Int)=34
    ·rw[uQ h uJ]
     split
     ·exact⟨fun h=>by simp at h,fun _=>⟨by simp only;omega,by simp only;omega⟩,by simp,by simp⟩
     ·exact⟨fun _=>⟨by simp only;omega,by simp only;omega⟩,fun h=>by simp at h,by simp only;omega,by simp only;omega⟩
    ·by_cases FZ:((bt s i).toNat:Int)=92
     ·rw[wK h FZ]
      by_cases h1:i+1<s.size
      ·rw[if_pos h1]
       by_cases h2:mg (bt s (i+1))<0
       ·rw[if_pos h2]
        exact⟨fun h=>by simp at h,fun _=>⟨by simp only;omega,by simp only;omega⟩,by simp,by simp⟩
       ·rw[if_neg h2]
        by_cases h3:i+2<s.size
        ·rw[if_pos h3]
         by_cases h4:mg (bt s (i+2))<0
         ·rw[if_pos h4]
          exact⟨fun h=>by simp at h,fun _=>⟨by simp only;omega,by simp only;omega⟩,by simp,by simp⟩
         ·rw[if_neg h4]
          exact ih (s.size-(i+3)) (by omega) (i+3) _ rfl (by omega) hp (by omega) (by simp;omega)
        ·rw[if_neg h3]
         exact⟨fun h=>by simp at h,fun _=>⟨by simp only;omega,by simp only;omega⟩,by simp,by simp⟩
      ·rw[if_neg h1]
       exact⟨fun h=>by simp at h,fun _=>⟨by simp only;omega,by simp only;omega⟩,by simp,by simp⟩
     ·by_cases hb:((bt s i).toNat:Int)<32∨126<((bt s i).toNat:Int)
      ·rw[wJ h uJ FZ hb]
       exact⟨fun h=>by simp at h,fun _=>⟨by simp only;omega,by simp only;omega⟩,by simp,by simp⟩
      ·rw[xG h uJ FZ hb]
       exact ih (s.size-(i+1)) (by omega) (i+1) _ rfl (by omega) hp (by omega) (by simp;omega)
   ·rw[Aj h]
    exact⟨fun h=>by simp at h,fun _=>⟨by simp only;omega,by simp only;omega⟩,by simp,by simp⟩
def iT (s:ByteArray)(i:Nat)(wh:Bool):T×Int×Int×Int :=
 if wh&&(o9 (bt s i) || oO (bt s i) || decide (((bt s i).toNat:Int)=45) || decide (((bt s i).toNat:Int)=34)) then (.mk 0 ⟨#[]⟩ 0 [] i,i+1,11,i)
 else if o9 (bt s i) then (.mk 2 (s.extract i (kP o9 s i)) 0 [] i,kP o9 s i,0,0)
 else if oO (bt s i) || decide (((bt s i).toNat:Int)=45) then
  (match jX s i with
    | some (n,e)=>(.mk 3 ⟨#[]⟩ n [] i,e,0,0)
    | none=>(.mk 3 ⟨#[]⟩ 0 [] i,-1,12,i))
 else if ((bt s i).toNat:Int)=34 then (.mk 4 ⟨(textE s i).1.toArray⟩ 0 [] i,(textE s i).2.1,(textE s i).2.2.1,(textE s i).2.2.2)
 else (.mk 0 ⟨#[]⟩ 0 [] i,i+1,12,i)
def T.kid (p t:T):T:=.mk p.k p.s p.n (p.kids++[t]) p.at_
def sS (op dn:List T)(t:T):List T×List T :=
 match op[op.length-1]? with
 | some p=>(op.set (op.length-1) (p.kid t),dn)
 | none=>(op,dn++[t])
def dW:T:=.mk 0 ⟨#[]⟩ 0 [] 0
def fZ (s:ByteArray)(op dn:List T)(i:Nat):T×Int×Int :=
 if h:i<s.size then
  (if ((bt s i).toNat:Int)=32∨((bt s i).toNat:Int)=10 then fZ s op dn (i+1)
   else if ((bt s i).toNat:Int)=40 then
    (if 12≤op.length then (dW,14,i) else if 0<dn.length then (dW,11,i) else fZ s (op++[.mk 1 ⟨#[]⟩ 0 [] i]) dn (i+1))
   else if ((bt s i).toNat:Int)=41 then
    (match op[op.length-1]? with
      | some t=>fZ s (sS (op.take (op.length-1)) dn t).1 (sS (op.take (op.length-1)) dn t).2 (i+1)
      | none=>(dW,12,i))
   else if (iT s i (decide (0<dn.length))).2.2.1=0 then
    (if hj:(i:Int)<(iT s i (decide (0<dn.length))).2.1 then
      fZ s (sS op dn (iT s i (decide (0<dn.length))).1).1 (sS op dn (iT s i (decide (0<dn.length))).1).2 (iT s i (decide (0<dn.length))).2.1.toNat
     else (dW,0,0))
   else (dW,(iT s i (decide (0<dn.length))).2.2.1,(iT s i (decide (0<dn.length))).2.2.2))
 else if 0<op.length then (dW,10,s.size)
 else (match dn with
  | t::_=>(t,0,0)
  | []=>(dW,10,s.size))
termination_by s.size-i
decreasing_by all_goals omega
structure Ag where
 nm:ByteArray
 fn:ByteArray
 xH:ByteArray
inductive P where
 | mk (k:Int)(nm:ByteArray)(ex:List E)(cols left right:List ByteArray)(ag:List Ag)(kids:List P)
def P.k:P→Int|.mk k _ _ _ _ _ _ _=>k
def P.nm:P→ByteArray|.mk _ s _ _ _ _ _ _=>s
def P.ex:P→List E|.mk _ _ l _ _ _ _ _=>l
def P.cols:P→List ByteArray|.mk _ _ _ l _ _ _ _=>l
def P.left:P→List ByteArray|.mk _ _ _ _ l _ _ _=>l
def P.right:P→List ByteArray|.mk _ _ _ _ _ l _ _=>l
def P.ag:P→List Ag|.mk _ _ _ _ _ _ l _=>l
def P.kids:P→List P|.mk _ _ _ _ _ _ _ l=>l
theorem P.ind {M:P→Prop} (h:∀ k nm ex cols left right ag kids,(∀ e∈kids,M e)→M (.mk k nm ex cols left right ag kids)):∀ e,M e:=by
 intro e
 exact P.rec (motive_1:=M) (motive_2:=fun l=>∀ e∈l,M e) (fun k nm ex cols left right ag kids ih=>h k nm ex cols left right ag kids ih) (fun e he=>by cases he) (fun e l h1 h2 x hx=>by
  rcases bZ.1 hx with rfl|hx
  ·exact h1
  ·exact h2 x hx) e
def P.put (p:P)(ks:List P):P:=.mk p.k p.nm p.ex p.cols p.left p.right p.ag ks
def gq:P:=.mk 0 ⟨#[]⟩ [] [] [] [] [] []
def mi:List UInt8:=[116,97,98,108,101]
def kT:List UInt8:=[102,105,108,116,101,114]
def jR:List UInt8:=[112,114,111,106,101,99,116]
def oV:List UInt8:=[106,111,105,110]
def nG:List UInt8:=[117,110,105,111,110]
def jh:List UInt8:=[100,105,115,116,105,110,99,116]
def kZ:List UInt8:=[103,114,111,117,112]
def pY:List UInt8:=[115,117,109]
def uS:List UInt8:=[109,105,110]
def uT:List UInt8:=[109,97,120]
def ig:List UInt8:=[99,111,117,110,116]
def lW:List (List UInt8):=[mi,kT,jR,oV,nG,jh,kZ]
theorem DI (l:List UInt8):l∈lW∨∀ x∈lW,(l==x)=false:=by
 by_cases h:l∈lW
 ·exact .inl h
 ·refine .inr fun x hx=>?_
  cases e:l==x
  ·rfl
  ·rw[show l=x by simpa using e] at h
   exact absurd hx h
def DJ (l:List T):Int:=match l with|[]=>0|x::_=>x.k
def uy (k:Int)(l:List T):ByteArray:=match l with|[]=>⟨#[]⟩|x::_=>if k=1∧x.k=2 then x.s else ⟨#[]⟩
def lh (t:T):ByteArray:=uy t.k t.kids
def jy (t:T):Bool:=t.k==1&&t.kids.all fun x=>x.k==2
def fE (t:T):Bool:=t.k==1&&(t.kids.length==2&&DJ t.kids==2)
def kG (t:T):Bool:=jy t&&(t.kids.length==2 || t.kids.length==3)
def fV (l:List T)(i:Nat):List T:=(l.drop i).take (l.length-1-i)
def gJ (w:List UInt8)(l:List T):Int :=
 if w=mi then (if l.length=2∧(l.getD 1 dW).k=2 then 1 else 0)
 else if w=kT then (if l.length=3 then 2 else 0)
 else if w=jR then (if 3≤l.length∧(fV l 1).all fE=true then 3 else 0)
 else if w=oV then (if l.length=5∧jy (l.getD 1 dW)=true∧jy (l.getD 2 dW)=true then 4 else 0)
 else if w=nG then (if l.length=3 then 5 else 0)
 else if w=jh then (if l.length=2 then 6 else 0)
 else if w=kZ then (if 3≤l.length∧jy (l.getD 1 dW)=true∧(fV l 2).all kG=true then 7 else 0)
 else 0
def jK (t:T):Int:=gJ (lh t).toList t.kids
abbrev jL:=Int×Int
def yH (e a:Int)(s:jL):jL:=if s.1=0 then (e,a) else s
def jl (t:T)(s:jL):jL:=if nameB t.s then s else yH 20 t.at_ s
def jc (l:List T)(s:jL):jL:=l.foldl (fun s t=>jl t s) s
def qo (t:T)(s:jL):jL:=if (dX t).2.1=0 then s else yH (dX t).2.1 (dX t).2.2 s
def qO (l:List T):Bool:=if l.length=2 then (l.getD 1 dW).s.toList==ig
 else ((l.getD 1 dW).s.toList==pY || (l.getD 1 dW).s.toList==uS) || (l.getD 1 dW).s.toList==uT
def qp (l:List T):Ag:=⟨(l.getD 0 dW).s,(l.getD 1 dW).s,if l.length=3 then (l.getD 2 dW).s else ⟨#[]⟩⟩
def qP (l:List T)(s:jL):jL:=if qO l then jl (l.getD 0 dW) s else yH 12 (l.getD 1 dW).at_ (jl (l.getD 0 dW) s)
def rV (l:List T)(s:jL):jL:=if l.length=3 then jl (l.getD 2 dW) (qP l s) else qP l s
def Ak (t:T)(s:jL):jL:=qo (t.kids.getD 1 dW) (jl (t.kids.getD 0 dW) s)
def qQ (l:List T)(s:jL):jL:=l.foldl (fun s t=>Ak t s) s
def oW (l:List T)(s:jL):jL:=l.foldl (fun s t=>rV t.kids s) s
def eU (kd:Int)(l:List T):P :=
 if kd=1 then .mk 1 (l.getD 1 dW).s [] [] [] [] [] []
 else if kd=2 then .mk 2 ⟨#[]⟩ [(dX (l.getD 1 dW)).1] [] [] [] [] []
 else if kd=3 then .mk 3 ⟨#[]⟩ ((fV l 1).map fun c=>(dX (c.kids.getD 1 dW)).1) ((fV l 1).map fun c=>(c.kids.getD 0 dW).s) [] [] [] []
 else if kd=4 then .mk 4 ⟨#[]⟩ [] [] ((l.getD 1 dW).kids.map T.s) ((l.getD 2 dW).kids.map T.s) [] []
 else if kd=7 then .mk 7 ⟨#[]⟩ [] [] ((l.getD 1 dW).kids.map T.s) [] ((fV l 2).map fun c=>qp c.kids) []
 else .mk kd ⟨#[]⟩ [] [] [] [] [] []
def iR (kd:Int)(l:List T)(a:Int)(s:jL):jL :=
 if kd=1 then jl (l.getD 1 dW) s
 else if kd=2 then qo (l.getD 1 dW) s
 else if kd=3 then qQ (fV l 1) s
 else if kd=4 then jc (l.getD 2 dW).kids (jc (l.getD 1 dW).kids s)
 else if kd=5 then s
 else if kd=6 then s
 else if kd=7 then oW (fV l 2) (jc (l.getD 1 dW).kids s)
 else yH 12 a s
def dY (kd:Int):Nat:=if kd=4∨kd=5 then 2 else if kd=2∨kd=3∨kd=6∨kd=7 then 1 else 0
mutual
def fU:T→jL→P×jL
 | .mk k s n l a,st=>((eU (jK (.mk k s n l a)) l).put (gu l (l.length-dY (jK (.mk k s n l a))) (iR (jK (.mk k s n l a)) l a st)).1,
    (gu l (l.length-dY (jK (.mk k s n l a))) (iR (jK (.mk k s n l a)) l a st)).2)
def gu:List T→Nat→jL→List P×jL
 | [],_,st=>([],st)
 | x::l,m,st=>match m with
   | 0=>((fU x st).1::(gu l 0 (fU x st).2).1,(gu l 0 (fU x st).2).2)
   | m+1=>gu l m st
end
theorem lq:∀ (l:List T)(m:Nat)(st:jL),gu l m st=gu (l.drop m) 0 st
 | [],m,st=>by rw[List.drop_nil];cases m <;> simp only[gu]
 | x::l,0,st=>by rw[List.drop_zero]
 | x::l,m+1,st=>by rw[gu,List.drop_succ_cons];exact lq l m st
theorem NK {l:List T} {j:Nat} {x:T} (h:l[j]?=some x)(st:jL) :
 gu (l.drop j) 0 st=((fU x st).1::(gu (l.drop (j+1)) 0 (fU x st).2).1,(gu (l.drop (j+1)) 0 (fU x st).2).2):=by
 obtain⟨h1,e1⟩:=aV.1 h
 rw[bY h1,e1,gu]
theorem fA.sub {w:World} {B b off:Nat} {l:List T} (h:fA w B (some ⟨b,off,none⟩) l)(i m:Nat):fA w B (some ⟨b,off+i*5,none⟩) ((l.drop i).take m):=by
 cases h with
 | nil A=>simp;exact .nil _
 | mk _ _ _ hn hlt A c h hk =>
   have hget:∀ j e,((l.drop i).take m)[j]?=some e→l[i+j]?=some e:=fun j e he=>by
    rw[List.getElem?_take] at he
    split at he
    ·rw[List.getElem?_drop] at he;exact he
    ·cases he
   refine .mk b (off+i*5) _ (by rw[List.length_take,List.length_drop];omega) hlt (fun j=>A (i+j)) (fun j=>c (i+j)) (fun j e he=>?_) (fun j e he=>hk _ e (hget j e he))
   have:=h (i+j) e (hget j e he)
   rw[show off+i*5+j*5=off+(i+j)*5 by omega]
   exact this
theorem nT (w:World)(k:Int)(s:ByteArray)(n:Int)(A:Option Addr)(m c:Nat)(a:Int):(w.alloc (.cells #[.int .i64 k,.string s,.int .i64 n,.slice A m c,.int .i64 a] 71)).heap[w.heap.size]?=some (.cells #[.int .i64 k,.string s,.int .i64 n,.slice A m c,.int .i64 a] 71 (0,0)):=aH w _
theorem dV (w:World)(cs:Array Value)(t:TypeId):Below w.heap.size w (w.alloc (.cells cs t)):=(aG _ _).alloc (aF _) _
theorem F6 (x:T)(A:Option Addr)(c:Nat)(w:World) :
 Calls Tryz.prog 140 #[x.val A c] w fun e w'=>e=.returned (.bool (x.k != 2))∧Below w.heap.size w w':=by
 obtain⟨k,s,n,l,a⟩:=x
 simp only[T.val,T.k,T.s,T.n,T.kids,T.at_]
 have hb0:=dV w #[.int .i64 k,.string s,.int .i64 n,.slice A l.length c,.int .i64 a] 71
 generalize l.length=m at *
 go_enter Tryz.func140,Tryz.ntmps140
 go_wp2_with fail
 go_ret
 exact⟨rfl,hb0⟩
theorem Cj (A:Option Addr)(c:Nat)(l:List T)(w:World)(hA:fA w w.heap.size A l) :
 Calls Tryz.prog 161 #[.slice A l.length c,.func (.func 140) #[] #[]] w fun e w' =>
  e=.returned (.int .i64 (idx (fun e:T=>e.k != 2) l 0))∧Below w.heap.size w w':=by
 have hn:=hA.len
 have HL:=ae hA.gy
 obtain⟨n,en⟩:∃ n,n=l.length:=⟨_,rfl⟩
 have Hl:=ae en
 rw[←en] at hn ⊢
 clear hA en
 go_enter Tryz.func161,Tryz.ntmps161
 go_wp2_with fail
 go_loopw [8] (fun i wr=>∃ k:Nat,k≤n∧i=.int .i64 k∧Below w.heap.size w wr∧Hid (idx (fun e:T=>e.k != 2) l 0=idx (fun e:T=>e.k != 2) (l.drop k) k)) (fun i _=>n-(intOf i).toNat)
 case atStart=>exact⟨0,aX _,rfl,aG _ _,rfl⟩
 case round =>
  obtain⟨k,hk,rfl,hbl,hz⟩:=hrel
  by_cases hlt:k<n
  ·obtain⟨x,hx⟩:∃ x,l[k]?=some x:=⟨_,aO (by rw[←Hl.o];exact hlt)⟩
   have hst:=ae (hz.o.trans (nz (p:=fun e:T=>e.k != 2) hx))
   obtain⟨b,o,A',c',rfl,hb,c1,c2,c3,c4,c5,hc',hK⟩:=HL.o wr hbl k x hx
   clear hx hz
   have hs:=hbl.size
   have hcl:=ae (F6 x A' c' wr)
   clear hK
   obtain⟨xk,xs,xn,xl,xa⟩:=x
   simp only[T.k,T.s,T.n,T.kids,T.at_,T.val] at c1 c2 c3 c4 c5 hc' hcl
   by_cases he:((T.mk xk xs xn xl xa).k != 2)=true
   ·have hst':Hid (idx (fun e:T=>e.k != 2) l 0=(k:Int)):=by
     have:=hst.o
     rwa [if_pos he] at this
    simp only[T.k] at he
    rw[he] at hcl
    clear he hst
    generalize xl.length=xm at *
    go_wp2_with fail
    refine (hcl.o).mono ?_
    rintro e w' ⟨rfl,hb2⟩
    have hb3:=hbl.trans (hb2.mono hs)
    clear hb2
    go_wp2_with fail
    go_ret
    exact⟨by rw[hst'.o];rfl,hb3⟩
   ·have he':((T.mk xk xs xn xl xa).k != 2)=false:=by simpa using he
    have hst':Hid (idx (fun e:T=>e.k != 2) l 0=idx (fun e:T=>e.k != 2) (l.drop (k+1)) (k+1)):=by
     have:=hst.o
     rwa [if_neg he] at this
    simp only[T.k] at he'
    rw[he'] at hcl
    clear he he' hst
    generalize xl.length=xm at *
    go_wp2_with fail
    refine (hcl.o).mono ?_
    rintro e w' ⟨rfl,hb2⟩
    have hb3:=hbl.trans (hb2.mono hs)
    clear hb2
    go_wp2_with fail
    go_roundw
    case rel=>exact⟨k+1,by omega,by go_num,hb3,hst'⟩
    case measure=>simp[intOf];omega
  ·go_wp2_with fail
   go_ret
   have e:k=n:=by omega
   subst e
   exact⟨by rw[hz.o,bW (by rw[←Hl.o];omega)];rfl,hbl⟩
theorem xI (A:Option Addr)(c:Nat)(l:List T)(w:World)(hA:fA w w.heap.size A l) :
 Calls Tryz.prog 138 #[.slice A l.length c,.func (.func 140) #[] #[]] w fun e w' =>
  e=.returned (.bool (l.any fun e:T=>e.k != 2))∧Below w.heap.size w w':=by
 have hc:=ae (Cj A c l w hA)
 rw[←yC (fun e:T=>e.k != 2) l 0]
 clear hA
 generalize idx (fun e:T=>e.k != 2) l 0=r at *
 generalize l.length=m at *
 go_enter Tryz.func138,Tryz.ntmps138
 go_wp2_with fail
 refine (hc.o).mono ?_
 rintro e w' ⟨rfl,hb⟩
 have HB:=ae hb
 clear hb
 go_wp2_with fail
 go_ret
 exact⟨rfl,HB.o⟩
theorem IL {α:Type} (p:α→Bool)(l:List α):(!(l.any fun v=>!p v))=l.all p:=by rw[←Dw,Bool.not_not]
theorem QX (k:Int)(s:ByteArray)(n:Int)(l:List T)(a:Int):jy (.mk k s n l a)=(k==1&&!(l.any fun e=>e.k != 2)):=by
 show _=(k==1&&!(l.any fun v=>!(v.k==2)))
 rw[IL fun e:T=>e.k==2]
 rfl
theorem wL (t:T)(A:Option Addr)(c:Nat)(w:World)(hA:fA w w.heap.size A t.kids) :
 Calls Tryz.prog 104 #[t.val A c] w fun e w'=>e=.returned (.bool (jy t))∧Below w.heap.size w w':=by
 obtain⟨k,s,n,l,a⟩:=t
 rw[QX]
 change fA w w.heap.size A l at hA
 have hb0:=dV w #[.int .i64 k,.string s,.int .i64 n,.slice A l.length c,.int .i64 a] 71
 have hcf:=ae (xI A c l _ ((hA.low hb0).more hb0.size))
 have HB0:=ae hb0
 clear hA hb0
 generalize (l.any fun e=>e.k != 2)=q at *
 simp only[T.val,T.k,T.s,T.n,T.kids,T.at_]
 generalize l.length=m at *
 by_cases h1:k=1
 ·subst h1
  go_enter Tryz.func104,Tryz.ntmps104
  go_wp2_with fail
  refine (hcf.o).mono ?_
  rintro e w' ⟨rfl,hb⟩
  have HB:=ae (HB0.o.trans (hb.mono HB0.o.size))
  clear hb
  cases q
  all_goals
   go_wp2_with fail
   go_ret
   exact⟨rfl,HB.o⟩
 ·have h1':(k==1)=false:=by simpa using h1
  go_enter Tryz.func104,Tryz.ntmps104
  go_wp2_with fail
  go_ret
  exact⟨by rw[h1'];rfl,HB0.o⟩
theorem GM {l:List T} {x:T} (h:l[0]?=some x):DJ l=x.k:=by
 cases l with
 | nil=>simp at h
 | cons y l=>simp at h;subst h;rfl
theorem NL (t:T)(A:Option Addr)(c:Nat)(w:World)(hA:fA w w.heap.size A t.kids) :
 Calls Tryz.prog 103 #[t.val A c] w fun e w'=>e=.returned (.bool (fE t))∧Below w.heap.size w w':=by
 obtain⟨k,s,n,l,a⟩:=t
 simp only[T.val,T.k,T.s,T.n,T.kids,T.at_] at hA ⊢
 have hb0:=dV w #[.int .i64 k,.string s,.int .i64 n,.slice A l.length c,.int .i64 a] 71
 have hlen:=hA.len
 by_cases h1:k=1
 ·subst h1
  by_cases h2:l.length=2
  ·obtain⟨x,hx⟩:∃ x,l[0]?=some x:=⟨_,aO (by omega)⟩
   obtain⟨b,o,A',c',rfl,hb,c1,c2,c3,c4,c5,hc',hK⟩:=hA.gy _ (aG _ _) 0 x hx
   rw[Nat.zero_mul,Nat.add_zero] at c1
   have d1:=(hb0.cell hb).trans c1
   rw[show fE (.mk 1 s n l a)=(x.k==2) from by
    show ((1:Int)==1&&(l.length==2&&DJ l==2))=(x.k==2)
    rw[h2,GM hx];rfl]
   have HB0:=ae hb0
   obtain⟨xk,xs,xn,xl,xa⟩:=x
   simp only[T.k,T.s,T.n,T.kids,T.at_] at c1 d1 ⊢
   clear hb0 hA hK hc' hlen hx c2 c3 c4 c5
   generalize l.length=m at *
   subst h2
   by_cases hx2:xk=2
   ·subst hx2
    go_enter Tryz.func103,Tryz.ntmps103
    go_wp2_with fail
    go_ret
    exact⟨rfl,HB0.o⟩
   ·have Uo:(xk==2)=false:=by simpa using hx2
    rw[Uo]
    go_enter Tryz.func103,Tryz.ntmps103
    go_wp2_with fail
    go_ret
    exact⟨rfl,HB0.o⟩
  ·rw[show fE (.mk 1 s n l a)=false from by
    show ((1:Int)==1&&(l.length==2&&DJ l==2))=false
    rw[show (l.length==2)=false from by simpa using h2];rfl]
   have h2':((l.length:Int)==2)=false:=by
    rw[beq_eq_false_iff_ne];omega
   have HB0:=ae hb0
   clear hb0 hA h2
   generalize l.length=m at *
   go_enter Tryz.func103,Tryz.ntmps103
   go_wp2_with fail
   go_ret
   exact⟨rfl,HB0.o⟩
 ·have h1':(k==1)=false:=by simpa using h1
  rw[show fE (.mk k s n l a)=false from by
   show (k==1&&(l.length==2&&DJ l==2))=false
   rw[h1'];rfl]
  have HB0:=ae hb0
  clear hb0 hA
  generalize l.length=m at *
  go_enter Tryz.func103,Tryz.ntmps103
  go_wp2_with fail
  go_ret
  exact⟨rfl,HB0.o⟩
theorem Xx (t:T)(A:Option Addr)(c:Nat)(w:World)(hA:fA w w.heap.size A t.kids) :
 Calls Tryz.prog 105 #[t.val A c] w fun e w'=>e=.returned (.bool (kG t))∧Below w.heap.size w w':=by
 have hb0:=dV w #[.int .i64 t.k,.string t.s,.int .i64 t.n,.slice A t.kids.length c,.int .i64 t.at_] 71
 have hat:=ae (wL t A c _ ((hA.low hb0).more hb0.size))
 rw[show kG t=(jy t&&(t.kids.length==2 || t.kids.length==3)) from rfl]
 have hlen:=hA.len
 have HB0:=ae hb0
 clear hA hb0
 generalize jy t=q at *
 obtain⟨k,s,n,l,a⟩:=t
 simp only[T.val,T.k,T.s,T.n,T.kids,T.at_] at *
 generalize l.length=m at *
 have h5:=nT w k s n A m c a
 by_cases h2:m=2
 ·subst h2
  go_enter Tryz.func105,Tryz.ntmps105
  go_wp2_with fail
  refine (hat.o).mono ?_
  rintro e w' ⟨rfl,hb⟩
  have HB:=ae (HB0.o.trans (hb.mono HB0.o.size))
  obtain⟨⟨k0,k1,k2,k3,k4⟩,_,_,_,_,_⟩:=dN ((hb.block w.heap.size (by simp)).trans h5)
  clear hb
  cases q
  all_goals
   go_wp2_with fail
   go_ret
   exact⟨rfl,HB.o⟩
 ·have h2':((m:Int)==2)=false:=by rw[beq_eq_false_iff_ne];omega
  have adg:(m==2)=false:=by simpa using h2
  by_cases h3:m=3
  ·subst h3
   go_enter Tryz.func105,Tryz.ntmps105
   go_wp2_with fail
   refine (hat.o).mono ?_
   rintro e w' ⟨rfl,hb⟩
   have HB:=ae (HB0.o.trans (hb.mono HB0.o.size))
   obtain⟨⟨k0,k1,k2,k3,k4⟩,_,_,_,_,_⟩:=dN ((hb.block w.heap.size (by simp)).trans h5)
   clear hb
   cases q
   all_goals
    go_wp2_with fail
    go_ret
    exact⟨rfl,HB.o⟩
  ·have h3':((m:Int)==3)=false:=by rw[beq_eq_false_iff_ne];omega
   have agC:(m==3)=false:=by simpa using h3
   rw[adg,agC]
   go_enter Tryz.func105,Tryz.ntmps105
   go_wp2_with fail
   refine (hat.o).mono ?_
   rintro e w' ⟨rfl,hb⟩
   have HB:=ae (HB0.o.trans (hb.mono HB0.o.size))
   obtain⟨⟨k0,k1,k2,k3,k4⟩,_,_,_,_,_⟩:=dN ((hb.block w.heap.size (by simp)).trans h5)
   clear hb
   cases q
   all_goals
    go_wp2_with fail
    go_ret
    exact⟨rfl,HB.o⟩
theorem Cm (x:T)(A:Option Addr)(c b o:Nat)(w:World)(hA:fA w w.heap.size A x.kids)(h0:w.cell? ⟨b,o,none⟩=some (.func (.func 103) #[] #[])) :
 Calls Tryz.prog 139 #[x.val A c,.pointer (some ⟨b,o,none⟩)] w fun e w'=>e=.returned (.bool (!fE x))∧Below w.heap.size w w':=by
 have hb0:=dV w #[.int .i64 x.k,.string x.s,.int .i64 x.n,.slice A x.kids.length c,.int .i64 x.at_] 71
 have hat:=ae (NL x A c _ ((hA.low hb0).more hb0.size))
 have hp:=block_lt_of_cell h0
 have h0':=(hb0.cell hp).trans h0
 have HB0:=ae hb0
 clear hA hb0
 generalize fE x=q at *
 obtain⟨k,s,n,l,a⟩:=x
 simp only[T.val,T.k,T.s,T.n,T.kids,T.at_] at *
 generalize l.length=m at *
 go_enter Tryz.func139,Tryz.ntmps139
 go_wp2_with fail
 refine (hat.o).mono ?_
 rintro e w' ⟨rfl,hb⟩
 have HB:=ae (HB0.o.trans (hb.mono HB0.o.size))
 clear hb
 go_wp2_with fail
 go_ret
 exact⟨rfl,HB.o⟩
theorem yI (A:Option Addr)(c:Nat)(l:List T)(pb po:Nat)(w:World)(hA:fA w w.heap.size A l)(h0:w.cell? ⟨pb,po,none⟩=some (.func (.func 103) #[] #[])) :
 Calls Tryz.prog 161 #[.slice A l.length c,.func (.func 139) #[] #[.pointer (some ⟨pb,po,none⟩)]] w fun e w' =>
  e=.returned (.int .i64 (idx (fun e:T=>!fE e) l 0))∧Below w.heap.size w w':=by
 have hn:=hA.len
 have HL:=ae hA.gy
 obtain⟨n,en⟩:∃ n,n=l.length:=⟨_,rfl⟩
 have Hl:=ae en
 rw[←en] at hn ⊢
 clear hA en
 go_enter Tryz.func161,Tryz.ntmps161
 go_wp2_with fail
 go_loopw [8] (fun i wr=>∃ k:Nat,k≤n∧i=.int .i64 k∧Below w.heap.size w wr∧Hid (idx (fun e:T=>!fE e) l 0=idx (fun e:T=>!fE e) (l.drop k) k)) (fun i _=>n-(intOf i).toNat)
 case atStart=>exact⟨0,aX _,rfl,aG _ _,rfl⟩
 case round =>
  obtain⟨k,hk,rfl,hbl,hz⟩:=hrel
  by_cases hlt:k<n
  ·obtain⟨x,hx⟩:∃ x,l[k]?=some x:=⟨_,aO (by rw[←Hl.o];exact hlt)⟩
   have hst:=ae (hz.o.trans (nz (p:=fun e:T=>!fE e) hx))
   obtain⟨b,o,A',c',rfl,hb,c1,c2,c3,c4,c5,hc',hK⟩:=HL.o wr hbl k x hx
   clear hx hz
   have hs:=hbl.size
   have hcl:=ae (Cm x A' c' pb po wr hK ((hbl.cell (block_lt_of_cell h0)).trans h0))
   clear hK
   obtain⟨xk,xs,xn,xl,xa⟩:=x
   simp only[T.k,T.s,T.n,T.kids,T.at_,T.val] at c1 c2 c3 c4 c5 hc' hcl
   by_cases he:(!fE (T.mk xk xs xn xl xa))=true
   ·have hst':Hid (idx (fun e:T=>!fE e) l 0=(k:Int)):=by
     have:=hst.o
     rwa [if_pos he] at this
    rw[he] at hcl
    clear he hst
    generalize xl.length=xm at *
    go_wp2_with fail
    refine (hcl.o).mono ?_
    rintro e w' ⟨rfl,hb2⟩
    have hb3:=hbl.trans (hb2.mono hs)
    clear hb2
    go_wp2_with fail
    go_ret
    exact⟨by rw[hst'.o];rfl,hb3⟩
   ·have he':(!fE (T.mk xk xs xn xl xa))=false:=by simpa using he
    have hst':Hid (idx (fun e:T=>!fE e) l 0=idx (fun e:T=>!fE e) (l.drop (k+1)) (k+1)):=by
     have:=hst.o
     rwa [if_neg he] at this
    rw[he'] at hcl
    clear he he' hst
    generalize xl.length=xm at *
    go_wp2_with fail
    refine (hcl.o).mono ?_
    rintro e w' ⟨rfl,hb2⟩
    have hb3:=hbl.trans (hb2.mono hs)
    clear hb2
    go_wp2_with fail
    go_roundw
    case rel=>exact⟨k+1,by omega,by go_num,hb3,hst'⟩
    case measure=>simp[intOf];omega
  ·go_wp2_with fail
   go_ret
   have e:k=n:=by omega
   subst e
   exact⟨by rw[hz.o,bW (by rw[←Hl.o];omega)];rfl,hbl⟩
theorem uU (A:Option Addr)(c:Nat)(l:List T)(pb po:Nat)(w:World)(hA:fA w w.heap.size A l)(h0:w.cell? ⟨pb,po,none⟩=some (.func (.func 103) #[] #[])) :
 Calls Tryz.prog 138 #[.slice A l.length c,.func (.func 139) #[] #[.pointer (some ⟨pb,po,none⟩)]] w fun e w' =>
  e=.returned (.bool (l.any fun e:T=>!fE e))∧Below w.heap.size w w':=by
 have hc:=ae (yI A c l pb po w hA h0)
 rw[←yC (fun e:T=>!fE e) l 0]
 clear hA h0
 generalize idx (fun e:T=>!fE e) l 0=r at *
 generalize l.length=m at *
 go_enter Tryz.func138,Tryz.ntmps138
 go_wp2_with fail
 refine (hc.o).mono ?_
 rintro e w' ⟨rfl,hb⟩
 have HB:=ae hb
 clear hb
 go_wp2_with fail
 go_ret
 exact⟨rfl,HB.o⟩
theorem Xy (A:Option Addr)(c:Nat)(l:List T)(w:World)(hA:fA w w.heap.size A l) :
 Calls Tryz.prog 102 #[.slice A l.length c,.func (.func 103) #[] #[]] w fun e w'=>e=.returned (.bool (l.all fE))∧Below w.heap.size w w':=by
 have hb0:=dV w #[.func (.func 103) #[] #[]] 155
 have hcf:=ae (uU A c l w.heap.size 0 _ ((hA.low hb0).more hb0.size) (by simp))
 rw[←IL fE l]
 have HB0:=ae hb0
 clear hA hb0
 generalize (l.any fun e=>!fE e)=q at *
 generalize l.length=m at *
 have hmf:∀ (fn:Fn)(first cap:Array Value)(w:World),(Instr.makeFunc fn first cap).run Tryz.prog w=.ok (.func fn first cap) w:=fun _ _ _ _=>rfl
 go_enter Tryz.func102,Tryz.ntmps102
 go_wp2_with fail
 refine (hcf.o).mono ?_
 rintro e w' ⟨rfl,hb⟩
 have HB:=ae (HB0.o.trans (hb.mono HB0.o.size))
 clear hb
 go_wp2_with fail
 go_ret
 exact⟨rfl,HB.o⟩
theorem CB (x:T)(A:Option Addr)(c b o:Nat)(w:World)(hA:fA w w.heap.size A x.kids)(h0:w.cell? ⟨b,o,none⟩=some (.func (.func 105) #[] #[])) :
 Calls Tryz.prog 139 #[x.val A c,.pointer (some ⟨b,o,none⟩)] w fun e w'=>e=.returned (.bool (!kG x))∧Below w.heap.size w w':=by
 have hb0:=dV w #[.int .i64 x.k,.string x.s,.int .i64 x.n,.slice A x.kids.length c,.int .i64 x.at_] 71
 have hat:=ae (Xx x A c _ ((hA.low hb0).more hb0.size))
 have hp:=block_lt_of_cell h0
 have h0':=(hb0.cell hp).trans h0
 have HB0:=ae hb0
 clear hA hb0
 generalize kG x=q at *
 obtain⟨k,s,n,l,a⟩:=x
 simp only[T.val,T.k,T.s,T.n,T.kids,T.at_] at *
 generalize l.length=m at *
 go_enter Tryz.func139,Tryz.ntmps139
 go_wp2_with fail
 refine (hat.o).mono ?_
 rintro e w' ⟨rfl,hb⟩
 have HB:=ae (HB0.o.trans (hb.mono HB0.o.size))
 clear hb
 go_wp2_with fail
 go_ret
 exact⟨rfl,HB.o⟩
theorem yK (A:Option Addr)(c:Nat)(l:List T)(pb po:Nat)(w:World)(hA:fA w w.heap.size A l)(h0:w.cell? ⟨pb,po,none⟩=some (.func (.func 105) #[] #[])) :
 Calls Tryz.prog 161 #[.slice A l.length c,.func (.func 139) #[] #[.pointer (some ⟨pb,po,none⟩)]] w fun e w' =>
  e=.returned (.int .i64 (idx (fun e:T=>!kG e) l 0))∧Below w.heap.size w w':=by
 have hn:=hA.len
 have HL:=ae hA.gy
 obtain⟨n,en⟩:∃ n,n=l.length:=⟨_,rfl⟩
 have Hl:=ae en
 rw[←en] at hn ⊢
 clear hA en
 go_enter Tryz.func161,Tryz.ntmps161
 go_wp2_with fail
 go_loopw [8] (fun i wr=>∃ k:Nat,k≤n∧i=.int .i64 k∧Below w.heap.size w wr∧Hid (idx (fun e:T=>!kG e) l 0=idx (fun e:T=>!kG e) (l.drop k) k)) (fun i _=>n-(intOf i).toNat)
 case atStart=>exact⟨0,aX _,rfl,aG _ _,rfl⟩
 case round =>
  obtain⟨k,hk,rfl,hbl,hz⟩:=hrel
  by_cases hlt:k<n
  ·obtain⟨x,hx⟩:∃ x,l[k]?=some x:=⟨_,aO (by rw[←Hl.o];exact hlt)⟩
   have hst:=ae (hz.o.trans (nz (p:=fun e:T=>!kG e) hx))
   obtain⟨b,o,A',c',rfl,hb,c1,c2,c3,c4,c5,hc',hK⟩:=HL.o wr hbl k x hx
   clear hx hz
   have hs:=hbl.size
   have hcl:=ae (CB x A' c' pb po wr hK ((hbl.cell (block_lt_of_cell h0)).trans h0))
   clear hK
   obtain⟨xk,xs,xn,xl,xa⟩:=x
   simp only[T.k,T.s,T.n,T.kids,T.at_,T.val] at c1 c2 c3 c4 c5 hc' hcl
   by_cases he:(!kG (T.mk xk xs xn xl xa))=true
   ·have hst':Hid (idx (fun e:T=>!kG e) l 0=(k:Int)):=by
     have:=hst.o
     rwa [if_pos he] at this
    rw[he] at hcl
    clear he hst
    generalize xl.length=xm at *
    go_wp2_with fail
    refine (hcl.o).mono ?_
    rintro e w' ⟨rfl,hb2⟩
    have hb3:=hbl.trans (hb2.mono hs)
    clear hb2
    go_wp2_with fail
    go_ret
    exact⟨by rw[hst'.o];rfl,hb3⟩
   ·have he':(!kG (T.mk xk xs xn xl xa))=false:=by simpa using he
    have hst':Hid (idx (fun e:T=>!kG e) l 0=idx (fun e:T=>!kG e) (l.drop (k+1)) (k+1)):=by
     have:=hst.o
     rwa [if_neg he] at this
    rw[he'] at hcl
    clear he he' hst
    generalize xl.length=xm at *
    go_wp2_with fail
    refine (hcl.o).mono ?_
    rintro e w' ⟨rfl,hb2⟩
    have hb3:=hbl.trans (hb2.mono hs)
    clear hb2
    go_wp2_with fail
    go_roundw
    case rel=>exact⟨k+1,by omega,by go_num,hb3,hst'⟩
    case measure=>simp[intOf];omega
  ·go_wp2_with fail
   go_ret
   have e:k=n:=by omega
   subst e
   exact⟨by rw[hz.o,bW (by rw[←Hl.o];omega)];rfl,hbl⟩
theorem uV (A:Option Addr)(c:Nat)(l:List T)(pb po:Nat)(w:World)(hA:fA w w.heap.size A l)(h0:w.cell? ⟨pb,po,none⟩=some (.func (.func 105) #[] #[])) :
 Calls Tryz.prog 138 #[.slice A l.length c,.func (.func 139) #[] #[.pointer (some ⟨pb,po,none⟩)]] w fun e w' =>
  e=.returned (.bool (l.any fun e:T=>!kG e))∧Below w.heap.size w w':=by
 have hc:=ae (yK A c l pb po w hA h0)
 rw[←yC (fun e:T=>!kG e) l 0]
 clear hA h0
 generalize idx (fun e:T=>!kG e) l 0=r at *
 generalize l.length=m at *
 go_enter Tryz.func138,Tryz.ntmps138
 go_wp2_with fail
 refine (hc.o).mono ?_
 rintro e w' ⟨rfl,hb⟩
 have HB:=ae hb
 clear hb
 go_wp2_with fail
 go_ret
 exact⟨rfl,HB.o⟩
theorem Xz (A:Option Addr)(c:Nat)(l:List T)(w:World)(hA:fA w w.heap.size A l) :
 Calls Tryz.prog 102 #[.slice A l.length c,.func (.func 105) #[] #[]] w fun e w'=>e=.returned (.bool (l.all kG))∧Below w.heap.size w w':=by
 have hb0:=dV w #[.func (.func 105) #[] #[]] 155
 have hcf:=ae (uV A c l w.heap.size 0 _ ((hA.low hb0).more hb0.size) (by simp))
 rw[←IL kG l]
 have HB0:=ae hb0
 clear hA hb0
 generalize (l.any fun e=>!kG e)=q at *
 generalize l.length=m at *
 have hmf:∀ (fn:Fn)(first cap:Array Value)(w:World),(Instr.makeFunc fn first cap).run Tryz.prog w=.ok (.func fn first cap) w:=fun _ _ _ _=>rfl
 go_enter Tryz.func102,Tryz.ntmps102
 go_wp2_with fail
 refine (hcf.o).mono ?_
 rintro e w' ⟨rfl,hb⟩
 have HB:=ae (HB0.o.trans (hb.mono HB0.o.size))
 clear hb
 go_wp2_with fail
 go_ret
 exact⟨rfl,HB.o⟩
theorem Ur (t:T)(A:Option Addr)(c:Nat)(w:World)(hA:fA w w.heap.size A t.kids) :
 Calls Tryz.prog 101 #[t.val A c] w fun e w'=>e=.returned (.string (lh t))∧Below w.heap.size w w':=by
 obtain⟨k,s,n,l,a⟩:=t
 change fA w w.heap.size A l at hA
 rw[show lh (.mk k s n l a)=uy k l from rfl]
 simp only[T.val,T.k,T.s,T.n,T.kids,T.at_]
 have hb0:=dV w #[.int .i64 k,.string s,.int .i64 n,.slice A l.length c,.int .i64 a] 71
 have hlen:=hA.len
 by_cases h1:k=1
 ·subst h1
  by_cases h2:l.length=0
  ·obtain rfl:l=[]:=bF h2
   rw[show uy 1 []=⟨#[]⟩ from rfl]
   have HB0:=ae hb0
   clear hb0 hA hlen h2
   simp only[List.length_nil] at *
   go_enter Tryz.func101,Tryz.ntmps101
   go_wp2_with fail
   go_ret
   exact⟨rfl,HB0.o⟩
  ·obtain⟨x,hx⟩:∃ x,l[0]?=some x:=⟨_,aO (by omega)⟩
   obtain⟨b,o,A',c',rfl,hb,c1,c2,c3,c4,c5,hc',hK⟩:=hA.gy _ (aG _ _) 0 x hx
   rw[Nat.zero_mul,Nat.add_zero] at c1 c2
   have d1:=(hb0.cell hb).trans c1
   have d2:=(hb0.cell hb).trans c2
   have hw:uy 1 l=if x.k=2 then x.s else ⟨#[]⟩:=by
    cases l with
    | nil=>simp at hx
    | cons y l =>
      simp at hx;subst hx
      show (if (1:Int)=1∧y.k=2 then y.s else ⟨#[]⟩)=_
      by_cases e:y.k=2
      ·rw[if_pos ⟨rfl,e⟩,if_pos e]
      ·rw[if_neg (fun h=>e h.2),if_neg e]
   rw[hw]
   have HB0:=ae hb0
   clear hb0 hA hK hc' hx c3 c4 c5 hw
   generalize l.length=m at *
   have h2':((m:Int)==0)=false:=by rw[beq_eq_false_iff_ne];omega
   by_cases hx2:x.k=2
   ·rw[if_pos hx2]
    rw[hx2] at c1 d1
    generalize x.s=xs at *
    clear hx2 x
    go_enter Tryz.func101,Tryz.ntmps101
    go_wp2_with fail
    go_ret
    exact⟨rfl,HB0.o⟩
   ·rw[if_neg hx2]
    generalize x.s=xs at *
    generalize x.k=xk at *
    have Uo:(xk==2)=false:=by simpa using hx2
    clear x
    go_enter Tryz.func101,Tryz.ntmps101
    go_wp2_with fail
    go_ret
    exact⟨rfl,HB0.o⟩
 ·have h1':(k==1)=false:=by simpa using h1
  rw[show uy k l=⟨#[]⟩ from by
   cases l with
   | nil=>rfl
   | cons x l=>exact if_neg fun h=>h1 h.1]
  have HB0:=ae hb0
  clear hb0 hA
  generalize l.length=m at *
  go_enter Tryz.func101,Tryz.ntmps101
  go_wp2_with fail
  go_ret
  exact⟨rfl,HB0.o⟩
theorem DK (l:List T):gJ mi l=if l.length=2∧(l.getD 1 dW).k=2 then 1 else 0:=by unfold gJ;rw[if_pos rfl]
theorem BG (l:List T):gJ kT l=if l.length=3 then 2 else 0:=by unfold gJ;rw[if_neg (by decide),if_pos rfl]
theorem yL (l:List T):gJ jR l=if 3≤l.length∧(fV l 1).all fE=true then 3 else 0:=by unfold gJ;rw[if_neg (by decide),if_neg (by decide),if_pos rfl]
theorem GN (l:List T):gJ oV l=if l.length=5∧jy (l.getD 1 dW)=true∧jy (l.getD 2 dW)=true then 4 else 0:=by unfold gJ;rw[if_neg (by decide),if_neg (by decide),if_neg (by decide),if_pos rfl]
theorem DL (l:List T):gJ nG l=if l.length=3 then 5 else 0:=by unfold gJ;rw[if_neg (by decide),if_neg (by decide),if_neg (by decide),if_neg (by decide),if_pos rfl]
theorem xh (l:List T):gJ jh l=if l.length=2 then 6 else 0:=by unfold gJ;rw[if_neg (by decide),if_neg (by decide),if_neg (by decide),if_neg (by decide),if_neg (by decide),if_pos rfl]
theorem DN (l:List T):gJ kZ l=if 3≤l.length∧jy (l.getD 1 dW)=true∧(fV l 2).all kG=true then 7 else 0:=by unfold gJ;rw[if_neg (by decide),if_neg (by decide),if_neg (by decide),if_neg (by decide),if_neg (by decide),if_neg (by decide),if_pos rfl]
theorem kind_none {wd:List UInt8} (h:∀ x∈lW,(wd==x)=false)(l:List T):gJ wd l=0:=by
 have hne:∀ x∈lW,wd≠x:=fun x hx e=>by have:=h x hx;rw[e] at this;simp at this
 unfold gJ
 rw[if_neg (hne mi (by simp[lW])),if_neg (hne kT (by simp[lW])),if_neg (hne jR (by simp[lW])),if_neg (hne oV (by simp[lW])),if_neg (hne nG (by simp[lW])),if_neg (hne jh (by simp[lW])),if_neg (hne kZ (by simp[lW]))]
theorem getD_some {l:List T} {i:Nat} {x:T} (h:l[i]?=some x):l.getD i dW=x:=by rw[List.getD_eq_getElem?_getD,h];rfl
theorem Us (t:T)(A:Option Addr)(c:Nat)(w:World)(hc:t.kids.length≤c)(hA:fA w w.heap.size A t.kids) :
 Calls Tryz.prog 56 #[t.val A c] w fun e w'=>e=.returned (.int .i64 (jK t))∧Below w.heap.size w w':=by
 obtain⟨k,s,n,l,a⟩:=t
 change l.length≤c at hc
 change fA w w.heap.size A l at hA
 have hb0:=ae (dV w #[.int .i64 k,.string s,.int .i64 n,.slice A l.length c,.int .i64 a] 71)
 have hx0:=ae (nT w k s n A l.length c a)
 have hwd:=ae (Ur (.mk k s n l a) A c (w.alloc (.cells #[.int .i64 k,.string s,.int .i64 n,.slice A l.length c,.int .i64 a] 71)) ((hA.low hb0.o).more hb0.o.size))
 rw[show jK (.mk k s n l a)=gJ (lh (.mk k s n l a)).toList l from rfl]
 generalize lh (.mk k s n l a)=wd at *
 simp only[T.val,T.k,T.s,T.n,T.kids,T.at_] at hwd ⊢
 have hlen:=hA.len
 have HA:=ae hA
 clear hA
 rcases DI wd.toList with h|h
 ·simp only[lW,bZ,bI,or_false] at h
  rcases h with h|h|h|h|h|h|h
  ·obtain⟨r,hr⟩:∃ r,r=gJ wd.toList l:=⟨_,rfl⟩
   rw[←hr]
   rw[h,DK] at hr
   simp only[mi] at h
   have HR:=ae hr.symm
   clear hr
   by_cases h2:l.length=2
   ·obtain⟨x,hx⟩:∃ x,l[1]?=some x:=⟨_,aO (by omega)⟩
    rw[h2,getD_some hx] at HR
    generalize l.length=m at *
    subst h2
    go_enter Tryz.func56,Tryz.ntmps56
    go_wp2_with fail
    refine (hwd.o).mono ?_
    rintro e w2 ⟨rfl,hb⟩
    have iI:=ae ((hb.block w.heap.size (by simp)).trans hx0.o)
    have HB2:=ae (hb0.o.trans (hb.mono hb0.o.size))
    obtain⟨⟨k0,k1,k2,k3,k4⟩,_,_,_,_,_⟩:=dN iI.o
    clear hb hwd hb0 hx0
    obtain⟨b,o,A',c',rfl,hb,c1,c2,c3,c4,c5,hc',hK⟩:=HA.o.gy _ HB2.o 1 x hx
    rw[Nat.one_mul] at c1
    clear c2 c3 c4 c5 hc' hK hx HA
    generalize x.k=xk at *
    by_cases hx2:xk=2
    ·subst hx2
     go_wp2_with fail
     go_ret
     exact⟨by show Ending.returned (Value.int .i64 1)=_;rw[←HR.o,if_pos ⟨trivial,trivial⟩],HB2.o⟩
    ·have Uo:(xk==2)=false:=by simpa using hx2
     go_wp2_with fail
     go_ret
     exact⟨by show Ending.returned (Value.int .i64 0)=_;rw[←HR.o,if_neg (fun h=>hx2 h.2)],HB2.o⟩
   ·generalize l.length=m at *
    clear HA
    have h2':((m:Int)==2)=false:=by rw[beq_eq_false_iff_ne];omega
    go_enter Tryz.func56,Tryz.ntmps56
    go_wp2_with fail
    refine (hwd.o).mono ?_
    rintro e w2 ⟨rfl,hb⟩
    have iI:=ae ((hb.block w.heap.size (by simp)).trans hx0.o)
    have HB2:=ae (hb0.o.trans (hb.mono hb0.o.size))
    obtain⟨⟨k0,k1,k2,k3,k4⟩,_,_,_,_,_⟩:=dN iI.o
    clear hb hwd hb0 hx0
    go_wp2_with fail
    go_ret
    exact⟨by show Ending.returned (Value.int .i64 0)=_;rw[←HR.o,if_neg (fun h=>h2 h.1)],HB2.o⟩
  ·rw[h,BG]
   simp only[kT] at h
   generalize l.length=m at *
   clear HA
   by_cases h2:m=3
   ·subst h2
    rw[if_pos rfl]
    go_enter Tryz.func56,Tryz.ntmps56
    go_wp2_with fail
    refine (hwd.o).mono ?_
    rintro e w2 ⟨rfl,hb⟩
    have iI:=ae ((hb.block w.heap.size (by simp)).trans hx0.o)
    have HB2:=ae (hb0.o.trans (hb.mono hb0.o.size))
    obtain⟨⟨k0,k1,k2,k3,k4⟩,_,_,_,_,_⟩:=dN iI.o
    clear hb hwd hb0 hx0
    go_wp2_with fail
    go_ret
    exact⟨rfl,HB2.o⟩
   ·rw[if_neg h2]
    have h2':((m:Int)==3)=false:=by rw[beq_eq_false_iff_ne];omega
    go_enter Tryz.func56,Tryz.ntmps56
    go_wp2_with fail
    refine (hwd.o).mono ?_
    rintro e w2 ⟨rfl,hb⟩
    have iI:=ae ((hb.block w.heap.size (by simp)).trans hx0.o)
    have HB2:=ae (hb0.o.trans (hb.mono hb0.o.size))
    obtain⟨⟨k0,k1,k2,k3,k4⟩,_,_,_,_,_⟩:=dN iI.o
    clear hb hwd hb0 hx0
    go_wp2_with fail
    go_ret
    exact⟨rfl,HB2.o⟩
  ·obtain⟨r,hr⟩:∃ r,r=gJ wd.toList l:=⟨_,rfl⟩
   rw[←hr]
   rw[h,yL] at hr
   simp only[jR] at h
   have HR:=ae hr.symm
   clear hr
   by_cases h2:3≤l.length
   ·have hml:(fV l 1).length=l.length-2:=by unfold fV;rw[List.length_take,List.length_drop];omega
    obtain⟨x,hx⟩:∃ x,l[1]?=some x:=⟨_,aO (by omega)⟩
    go_enter Tryz.func56,Tryz.ntmps56
    go_wp2_with fail
    refine (hwd.o).mono ?_
    rintro e w2 ⟨rfl,hb⟩
    have iI:=ae ((hb.block w.heap.size (by simp)).trans hx0.o)
    have HB2:=ae (hb0.o.trans (hb.mono hb0.o.size))
    obtain⟨⟨k0,k1,k2,k3,k4⟩,_,_,_,_,_⟩:=dN iI.o
    clear hb hwd hb0 hx0
    obtain⟨b,o,A',c',rfl,QY,_⟩:=HA.o.gy _ HB2.o 1 x hx
    have hal:=ae (Xy (some ⟨b,o+1*5,none⟩) (c-1) (fV l 1) w2 ((((HA.o.low HB2.o).more HB2.o.size)).sub 1 _))
    rw[hml] at hal
    clear hml HA hx
    generalize (fV l 1).all fE=q at *
    generalize l.length=m at *
    go_wp2_with fail
    refine (hal.o).mono ?_
    rintro e w3 ⟨rfl,hb⟩
    have HB3:=ae (HB2.o.trans (hb.mono HB2.o.size))
    clear hb
    cases q
    ·go_wp2_with fail
     go_ret
     exact⟨by show Ending.returned (Value.int .i64 0)=_;rw[←HR.o,if_neg (fun h=>by simp at h)],HB3.o⟩
    ·go_wp2_with fail
     go_ret
     exact⟨by show Ending.returned (Value.int .i64 3)=_;rw[←HR.o,if_pos ⟨h2,trivial⟩],HB3.o⟩
   ·generalize l.length=m at *
    clear HA
    go_enter Tryz.func56,Tryz.ntmps56
    go_wp2_with fail
    refine (hwd.o).mono ?_
    rintro e w2 ⟨rfl,hb⟩
    have iI:=ae ((hb.block w.heap.size (by simp)).trans hx0.o)
    have HB2:=ae (hb0.o.trans (hb.mono hb0.o.size))
    obtain⟨⟨k0,k1,k2,k3,k4⟩,_,_,_,_,_⟩:=dN iI.o
    clear hb hwd hb0 hx0
    go_wp2_with fail
    go_ret
    exact⟨by show Ending.returned (Value.int .i64 0)=_;rw[←HR.o,if_neg (fun h=>h2 h.1)],HB2.o⟩
  ·obtain⟨r,hr⟩:∃ r,r=gJ wd.toList l:=⟨_,rfl⟩
   rw[←hr]
   rw[h,GN] at hr
   simp only[oV] at h
   have HR:=ae hr.symm
   clear hr
   by_cases h2:l.length=5
   ·obtain⟨x,hx⟩:∃ x,l[1]?=some x:=⟨_,aO (by omega)⟩
    obtain⟨y,hy⟩:∃ y,l[2]?=some y:=⟨_,aO (by omega)⟩
    rw[h2,getD_some hx,getD_some hy] at HR
    generalize l.length=m at *
    subst h2
    go_enter Tryz.func56,Tryz.ntmps56
    go_wp2_with fail
    refine (hwd.o).mono ?_
    rintro e w2 ⟨rfl,hb⟩
    have iI:=ae ((hb.block w.heap.size (by simp)).trans hx0.o)
    have HB2:=ae (hb0.o.trans (hb.mono hb0.o.size))
    obtain⟨⟨k0,k1,k2,k3,k4⟩,_,_,_,_,_⟩:=dN iI.o
    clear hb hwd hb0 hx0
    obtain⟨b,o,A1,d1,rfl,QY,c1,c2,c3,c4,c5,hd1,hK1⟩:=HA.o.gy _ HB2.o 1 x hx
    rw[Nat.one_mul] at c1 c2 c3 c4 c5
    have ha1:=ae (wL x A1 d1 w2 hK1)
    generalize jy x=q1 at *
    obtain⟨xk,xs,xn,xl,xa⟩:=x
    simp only[T.val,T.k,T.s,T.n,T.kids,T.at_] at c1 c2 c3 c4 c5 ha1
    clear hK1 hd1 hx
    generalize xl.length=xm at *
    go_wp2_with fail
    refine (ha1.o).mono ?_
    rintro e w3 ⟨rfl,hb⟩
    have HB3:=ae (HB2.o.trans (hb.mono HB2.o.size))
    have nO:=ae ((hb.block w.heap.size (by have:=(aU.1 iI.o).1;exact this)).trans iI.o)
    obtain⟨⟨m0,m1,m2,m3,m4⟩,_,_,_,_,_⟩:=dN nO.o
    clear hb
    cases q1
    ·go_wp2_with fail
     go_ret
     exact⟨by show Ending.returned (Value.int .i64 0)=_;rw[←HR.o,if_neg (fun h=>by simp at h)],HB3.o⟩
    ·obtain⟨b',o',A2,d2,e9,hb8,e1,e2,e3,e4,e5,hd2,hK2⟩:=HA.o.gy _ HB3.o 2 y hy
     obtain⟨rfl,rfl⟩:b'=b∧o'=o:=by injection e9 with e9;injection e9 with e9 e10;exact⟨e9.symm,e10.symm⟩
     have ha2:=ae (wL y A2 d2 w3 hK2)
     generalize jy y=q2 at *
     obtain⟨yk,ys,yn,yl,ya⟩:=y
     simp only[T.val,T.k,T.s,T.n,T.kids,T.at_] at e1 e2 e3 e4 e5 ha2
     clear hK2 hd2 hy HA
     generalize yl.length=ym at *
     go_wp2_with fail
     refine (ha2.o).mono ?_
     rintro e w4 ⟨rfl,hb⟩
     have HB4:=ae (HB3.o.trans (hb.mono HB3.o.size))
     clear hb
     cases q2
     ·go_wp2_with fail
      go_ret
      exact⟨by show Ending.returned (Value.int .i64 0)=_;rw[←HR.o,if_neg (fun h=>by simp at h)],HB4.o⟩
     ·go_wp2_with fail
      go_ret
      exact⟨by show Ending.returned (Value.int .i64 4)=_;rw[←HR.o,if_pos ⟨trivial,trivial,trivial⟩],HB4.o⟩
   ·generalize l.length=m at *
    clear HA
    have h2':((m:Int)==5)=false:=by rw[beq_eq_false_iff_ne];omega
    go_enter Tryz.func56,Tryz.ntmps56
    go_wp2_with fail
    refine (hwd.o).mono ?_
    rintro e w2 ⟨rfl,hb⟩
    have iI:=ae ((hb.block w.heap.size (by simp)).trans hx0.o)
    have HB2:=ae (hb0.o.trans (hb.mono hb0.o.size))
    obtain⟨⟨k0,k1,k2,k3,k4⟩,_,_,_,_,_⟩:=dN iI.o
    clear hb hwd hb0 hx0
    go_wp2_with fail
    go_ret
    exact⟨by show Ending.returned (Value.int .i64 0)=_;rw[←HR.o,if_neg (fun h=>h2 h.1)],HB2.o⟩
  ·rw[h,DL]
   simp only[nG] at h
   generalize l.length=m at *
   clear HA
   by_cases h2:m=3
   ·subst h2
    rw[if_pos rfl]
    go_enter Tryz.func56,Tryz.ntmps56
    go_wp2_with fail
    refine (hwd.o).mono ?_
    rintro e w2 ⟨rfl,hb⟩
    have iI:=ae ((hb.block w.heap.size (by simp)).trans hx0.o)
    have HB2:=ae (hb0.o.trans (hb.mono hb0.o.size))
    obtain⟨⟨k0,k1,k2,k3,k4⟩,_,_,_,_,_⟩:=dN iI.o
    clear hb hwd hb0 hx0
    go_wp2_with fail
    go_ret
    exact⟨rfl,HB2.o⟩
   ·rw[if_neg h2]
    have h2':((m:Int)==3)=false:=by rw[beq_eq_false_iff_ne];omega
    go_enter Tryz.func56,Tryz.ntmps56
    go_wp2_with fail
    refine (hwd.o).mono ?_
    rintro e w2 ⟨rfl,hb⟩
    have iI:=ae ((hb.block w.heap.size (by simp)).trans hx0.o)
    have HB2:=ae (hb0.o.trans (hb.mono hb0.o.size))
    obtain⟨⟨k0,k1,k2,k3,k4⟩,_,_,_,_,_⟩:=dN iI.o
    clear hb hwd hb0 hx0
    go_wp2_with fail
    go_ret
    exact⟨rfl,HB2.o⟩
  ·rw[h,xh]
   simp only[jh] at h
   generalize l.length=m at *
   clear HA
   by_cases h2:m=2
   ·subst h2
    rw[if_pos rfl]
    go_enter Tryz.func56,Tryz.ntmps56
    go_wp2_with fail
    refine (hwd.o).mono ?_
    rintro e w2 ⟨rfl,hb⟩
    have iI:=ae ((hb.block w.heap.size (by simp)).trans hx0.o)
    have HB2:=ae (hb0.o.trans (hb.mono hb0.o.size))
    obtain⟨⟨k0,k1,k2,k3,k4⟩,_,_,_,_,_⟩:=dN iI.o
    clear hb hwd hb0 hx0
    go_wp2_with fail
    go_ret
    exact⟨rfl,HB2.o⟩
   ·rw[if_neg h2]
    have h2':((m:Int)==2)=false:=by rw[beq_eq_false_iff_ne];omega
    go_enter Tryz.func56,Tryz.ntmps56
    go_wp2_with fail
    refine (hwd.o).mono ?_
    rintro e w2 ⟨rfl,hb⟩
    have iI:=ae ((hb.block w.heap.size (by simp)).trans hx0.o)
    have HB2:=ae (hb0.o.trans (hb.mono hb0.o.size))
    obtain⟨⟨k0,k1,k2,k3,k4⟩,_,_,_,_,_⟩:=dN iI.o
    clear hb hwd hb0 hx0
    go_wp2_with fail
    go_ret
    exact⟨rfl,HB2.o⟩
  ·obtain⟨r,hr⟩:∃ r,r=gJ wd.toList l:=⟨_,rfl⟩
   rw[←hr]
   rw[h,DN] at hr
   simp only[kZ] at h
   have HR:=ae hr.symm
   clear hr
   by_cases h2:3≤l.length
   ·have hml:(fV l 2).length=l.length-3:=by unfold fV;rw[List.length_take,List.length_drop];omega
    obtain⟨x,hx⟩:∃ x,l[1]?=some x:=⟨_,aO (by omega)⟩
    rw[getD_some hx] at HR
    go_enter Tryz.func56,Tryz.ntmps56
    go_wp2_with fail
    refine (hwd.o).mono ?_
    rintro e w2 ⟨rfl,hb⟩
    have iI:=ae ((hb.block w.heap.size (by simp)).trans hx0.o)
    have HB2:=ae (hb0.o.trans (hb.mono hb0.o.size))
    obtain⟨⟨k0,k1,k2,k3,k4⟩,_,_,_,_,_⟩:=dN iI.o
    clear hb hwd hb0 hx0
    obtain⟨b,o,A1,d1,rfl,QY,c1,c2,c3,c4,c5,hd1,hK1⟩:=HA.o.gy _ HB2.o 1 x hx
    rw[Nat.one_mul] at c1 c2 c3 c4 c5
    have ha1:=ae (wL x A1 d1 w2 hK1)
    generalize jy x=q1 at *
    obtain⟨xk,xs,xn,xl,xa⟩:=x
    simp only[T.val,T.k,T.s,T.n,T.kids,T.at_] at c1 c2 c3 c4 c5 ha1
    clear hK1 hd1 hx
    generalize xl.length=xm at *
    have hal:=ae (fun w3 (h:Below w.heap.size w w3)=>Xz (some ⟨b,o+2*5,none⟩) (c-2) (fV l 2) w3 ((((HA.o.low h).more h.size)).sub 2 _))
    rw[hml] at hal
    clear hml HA
    generalize (fV l 2).all kG=q2 at *
    generalize l.length=m at *
    go_wp2_with fail
    refine (ha1.o).mono ?_
    rintro e w3 ⟨rfl,hb⟩
    have HB3:=ae (HB2.o.trans (hb.mono HB2.o.size))
    have nO:=ae ((hb.block w.heap.size (by have:=(aU.1 iI.o).1;exact this)).trans iI.o)
    obtain⟨⟨m0,m1,m2,m3,m4⟩,_,_,_,_,_⟩:=dN nO.o
    clear hb
    cases q1
    ·go_wp2_with fail
     go_ret
     exact⟨by show Ending.returned (Value.int .i64 0)=_;rw[←HR.o,if_neg (fun h=>by simp at h)],HB3.o⟩
    ·go_wp2_with fail
     refine (hal.o _ HB3.o).mono ?_
     rintro e w4 ⟨rfl,hb⟩
     have HB4:=ae (HB3.o.trans (hb.mono HB3.o.size))
     clear hb
     cases q2
     ·go_wp2_with fail
      go_ret
      exact⟨by show Ending.returned (Value.int .i64 0)=_;rw[←HR.o,if_neg (fun h=>by simp at h)],HB4.o⟩
     ·go_wp2_with fail
      go_ret
      exact⟨by show Ending.returned (Value.int .i64 7)=_;rw[←HR.o,if_pos ⟨h2,trivial,trivial⟩],HB4.o⟩
   ·generalize l.length=m at *
    clear HA
    go_enter Tryz.func56,Tryz.ntmps56
    go_wp2_with fail
    refine (hwd.o).mono ?_
    rintro e w2 ⟨rfl,hb⟩
    have iI:=ae ((hb.block w.heap.size (by simp)).trans hx0.o)
    have HB2:=ae (hb0.o.trans (hb.mono hb0.o.size))
    obtain⟨⟨k0,k1,k2,k3,k4⟩,_,_,_,_,_⟩:=dN iI.o
    clear hb hwd hb0 hx0
    go_wp2_with fail
    go_ret
    exact⟨by show Ending.returned (Value.int .i64 0)=_;rw[←HR.o,if_neg (fun h=>h2 h.1)],HB2.o⟩
 ·rw[kind_none h]
  simp only[lW,mi,kT,jR,oV,nG,jh,kZ,bZ,bI,or_false,forall_eq_or_imp,forall_eq] at h
  obtain⟨h0,h1,h2,h3,h4,h5,h6⟩:=h
  generalize l.length=m at *
  clear HA
  go_enter Tryz.func56,Tryz.ntmps56
  go_wp2_with fail
  refine (hwd.o).mono ?_
  rintro e w2 ⟨rfl,hb⟩
  have iI:=ae ((hb.block w.heap.size (by simp)).trans hx0.o)
  have HB2:=ae (hb0.o.trans (hb.mono hb0.o.size))
  obtain⟨⟨k0,k1,k2,k3,k4⟩,_,_,_,_,_⟩:=dN iI.o
  clear hb hwd hb0 hx0
  go_wp2_with fail
  go_ret
  exact⟨rfl,HB2.o⟩
structure Only (g:Nat)(w w':World):Prop where
 os:w'.os=w.os
 tape:w'.tape=w.tape
 output:w'.output=w.output
 size:w.heap.size≤w'.heap.size
 block:∀ k,k<w.heap.size→k≠g→w'.heap[k]?=w.heap[k]?
theorem Only.refl (g:Nat)(w:World):Only g w w:=⟨rfl,rfl,rfl,aF _,fun _ _ _=>rfl⟩
theorem Only.trans {g:Nat} {a b c:World} (h:Only g a b)(k:Only g b c):Only g a c :=
 ⟨k.os.trans h.os,k.tape.trans h.tape,k.output.trans h.output,aS h.size k.size,fun i hi hg=>(k.block i (aK hi h.size) hg).trans (h.block i hi hg)⟩
theorem dU {g:Nat} {w w':World} (h:Below w.heap.size w w'):Only g w w':=⟨h.os,h.tape,h.output,h.size,fun k hk _=>h.block k hk⟩
theorem Only.cell {g:Nat} {w w':World} (h:Only g w w') {p:Addr} (h1:p.block<w.heap.size)(h2:p.block≠g):w'.cell? p=w.cell? p:=aT (w:=w) (h.block p.block h1 h2)
theorem Only.below {g B:Nat} {w w':World} (h:Only g w w')(hB:B≤w.heap.size)(hg:B≤g):Below B w w':=⟨h.os,h.tape,h.output,h.size,fun k hk=>h.block k (by omega) (by omega)⟩
theorem Only.alloc {g:Nat} {w w':World} (h:Only g w w')(o:Obj):Only g w (w'.alloc o):=h.trans (dU ((aG _ _).alloc (aF _) o))
theorem Only.bel {g:Nat} {w w1 w':World} (h:Only g w w1)(hb:Below w1.heap.size w1 w'):Only g w w':=h.trans (dU hb)
theorem Only.dQ {g:Nat} {w w':World} (h:Only g w w') {p:Addr} (hp:w.heap.size≤p.block)(u:Value):Only g w (w'.setCell p u) :=
 ⟨h.os,h.tape,h.output,by simp[World.setCell];exact h.size,fun k hk hne=>(aI w' p u k (by omega)).trans (h.block k hk hne)⟩
theorem Only.grown {g:Nat} {w a w1:World} {row:Option Nat} (h:Only g w a)(hg:a.grownBy w1 row)(hr:∀ k,row=some k→w.heap.size≤k):Only g w w1 :=
 ⟨hg.os.trans h.os,hg.tape.trans h.tape,hg.output.trans h.output,aS h.size hg.size,fun k hk hne=>(hg.block k (aK hk h.size) (fun e=>by have:=hr k e.symm;omega)).trans (h.block k hk hne)⟩
def sU (w:World)(g:Nat)(st:jL):Prop:=w.heap[g]?=some (.cells #[.int .i64 st.1,.int .i64 st.2] 76 (0,0))
theorem sU.lt {w:World} {g:Nat} {st:jL} (h:sU w g st):g<w.heap.size:=(aU.1 h).1
theorem sU.kept {w w':World} {g:Nat} {st:jL} (h:sU w g st)(hb:Below w.heap.size w w'):sU w' g st:=(hb.block g h.lt).trans h
theorem cell2 {w:World} {g:Nat} {a b:Value} {t:TypeId} (h:w.heap[g]?=some (.cells #[a,b] t (0,0))) :
 (w.cell? ⟨g,0,none⟩=some a∧w.cell? ⟨g,1,none⟩=some b)∧w.frozen? ⟨g,0,none⟩=false∧w.frozen? ⟨g,1,none⟩=false:=by
 simp[World.cell?,World.frozen?,h]
theorem Qa {w:World} {g k:Nat} {a b u:Value} {t:TypeId} (h:w.heap[g]?=some (.cells #[a,b] t (0,0))):(w.setCell ⟨g,k,none⟩ u).heap[g]?=some (.cells (#[a,b].set! k u) t (0,0)):=by
 show (w.heap.modify g _)[g]?=_
 rw[Array.getElem?_modify]
 simp[h]
theorem ik (g:Nat)(st:jL)(e a:Int)(w:World)(h:sU w g st) :
 Calls Tryz.prog 33 #[.pointer (some ⟨g,0,none⟩),.int .i64 e,.int .i64 a] w fun r w'=>r=.returned (.tuple #[])∧Only g w w'∧sU w' g (yH e a st):=by
 have hlt:=h.lt
 obtain⟨s1,s2⟩:=st
 unfold sU at h
 simp only at h
 obtain⟨⟨k0,k1⟩,f0,f1⟩:=cell2 h
 by_cases h0:s1=0
 ·subst h0
  rw[show yH e a (0,s2)=(e,a) from if_pos rfl]
  go_enter Tryz.func33,Tryz.ntmps33
  go_wp2_with fail
  first
   | refine bodyPost_end (results_none rfl _ _ _) rfl ?_
   | refine aJ (results_none rfl _ _ _) rfl ?_
  refine⟨rfl,⟨rfl,rfl,rfl,by simp[World.setCell],fun k hk hne=>?_⟩,Qa (k:=1) (Qa (k:=0) h)⟩
  exact (aI _ ⟨g,1,none⟩ _ k hne).trans (aI _ ⟨g,0,none⟩ _ k hne)
 ·rw[show yH e a (s1,s2)=(s1,s2) from if_neg h0]
  have h0':(s1==0)=false:=by simpa using h0
  go_enter Tryz.func33,Tryz.ntmps33
  go_wp2_with fail
  first
   | refine bodyPost_end (results_none rfl _ _ _) rfl ?_
   | refine aJ (results_none rfl _ _ _) rfl ?_
  exact⟨rfl,Only.refl _ _,h⟩
theorem ji (t:T)(A:Option Addr)(c:Nat)(g:Nat)(st:jL)(w:World)(h:sU w g st) :
 Calls Tryz.prog 57 #[.pointer (some ⟨g,0,none⟩),t.val A c] w fun r w'=>r=.returned (.string t.s)∧Only g w w'∧sU w' g (jl t st):=by
 obtain⟨k,s,n,l,a⟩:=t
 rw[show jl (.mk k s n l a) st=if nameB s then st else yH 20 a st from rfl]
 simp only[T.val,T.k,T.s,T.n,T.kids,T.at_]
 have hb0:=dV w #[.int .i64 k,.string s,.int .i64 n,.slice A l.length c,.int .i64 a] 71
 have hnm:=ae (name_any s (w.alloc (.cells #[.int .i64 k,.string s,.int .i64 n,.slice A l.length c,.int .i64 a] 71)))
 have hrf:=ae (ik g st 20 a _ (h.kept hb0))
 have h0:=h.kept hb0
 have hx:=nT w k s n A l.length c a
 have hlt:=h.lt
 have HB0:=ae hb0
 clear hb0 h
 generalize l.length=m at *
 generalize nameB s=q at *
 cases q
 ·go_enter Tryz.func57,Tryz.ntmps57
  go_wp2_with fail
  refine (hnm.o).mono ?_
  rintro e w' ⟨rfl,rfl⟩
  go_wp2_with fail
  refine (hrf.o).mono ?_
  rintro e w2 ⟨rfl,ho,hr⟩
  obtain⟨⟨k0,k1,k2,k3,k4⟩,_,_,_,_,_⟩:=dN ((ho.block w.heap.size (by simp) (by omega)).trans hx)
  have HO:=ae ((dU HB0.o).trans ho)
  clear ho
  go_wp2_with fail
  go_ret
  exact⟨rfl,HO.o,hr⟩
 ·go_enter Tryz.func57,Tryz.ntmps57
  go_wp2_with fail
  refine (hnm.o).mono ?_
  rintro e w' ⟨rfl,rfl⟩
  go_wp2_with fail
  go_ret
  exact⟨rfl,dU HB0.o,h0⟩
def Lies (w:World)(S:Nat→Prop)(A:Option Addr)(vs:List Value):Prop:=vs=[]∨∃ b off,A=some ⟨b,off,none⟩∧S b∧∀ j u,vs[j]?=some u→w.cell? ⟨b,off+j,none⟩=some u
theorem Lies.nil_ (w:World)(S:Nat→Prop)(A:Option Addr):Lies w S A []:=.inl rfl
theorem Lies.kept {w w':World} {S:Nat→Prop} {A:Option Addr} {vs:List Value} (h:Lies w S A vs)(hw:∀ k,S k→w'.heap[k]?=w.heap[k]?):Lies w' S A vs:=by
 rcases h with h|⟨b,off,rfl,hb,hc⟩
 ·exact .inl h
 ·exact .inr ⟨b,off,rfl,hb,fun j u hj=>(aT (hw b hb)).trans (hc j u hj)⟩
theorem Lies.mono {w:World} {S S':Nat→Prop} {A:Option Addr} {vs:List Value} (h:Lies w S A vs)(hS:∀ k,S k→S' k):Lies w S' A vs:=by
 rcases h with h|⟨b,off,rfl,hb,hc⟩
 ·exact .inl h
 ·exact .inr ⟨b,off,rfl,hS b hb,hc⟩
def strs (l:List ByteArray):List Value:=l.map .string
theorem GR {l:List ByteArray} {j:Nat} {x:ByteArray} (h:l[j]?=some x):strs (l.take (j+1))=strs (l.take j)++[.string x]:=by
 unfold strs
 rw[List.take_add_one,h,List.map_append]
 rfl
theorem oH {w:World} {base:Nat} {e:TypeId} {z:Nat} {v:Value} {n:Nat} {vs:List Value} (h:w.ownsRow base e z v n vs) {S:Nat→Prop} (hS:∀ g,base≤g→g<w.heap.size→S g) :
 ∃ A c,v=.slice A n c∧n≤c∧Lies w S A vs:=by
 obtain⟨hl,hcase⟩:=id h
 rcases hcase with⟨rfl,h0⟩|⟨g,cap,cur,rfl,hg,hh,hc,hcap,hsz,htake⟩
 ·subst h0
  exact⟨none,0,rfl,aF _,.inl (bF (by rw[hl];simp))⟩
 ·refine⟨some ⟨g,0,none⟩,cap,rfl,hc,.inr ⟨g,0,rfl,hS g hg ?_,fun j u hj=>?_⟩⟩
  ·rcases Nat.lt_or_ge g w.heap.size with hlt|hge
   ·exact hlt
   ·rw[Array.getElem?_eq_none hge] at hh;cases hh
  ·have hj':j<vs.length:=(aV.1 hj).1
   rw[Nat.zero_add,h.cellAt j (by omega)]
   exact hj
theorem uX {w w':World} {g B n:Nat} {e:TypeId} {z:Nat} {v:Value} {xs:List Value} (h:w.ownsRow B e z v n xs)(hb:Only g w w')(hg:g<B):w'.ownsRow B e z v n xs:=by
 refine⟨h.1,?_⟩
 rcases h.2 with hn|⟨g',cap,cur,rfl,hg',hgg,rest⟩
 ·exact .inl hn
 ·exact .inr ⟨g',cap,cur,rfl,hg',by rw[hb.block g' (aU.1 hgg).1 (by omega)];exact hgg,rest⟩
theorem J7 {l:List T} {j:Nat} {x:T} (h:l[j]?=some x)(st:jL):jc (l.take (j+1)) st=jl x (jc (l.take j) st):=by
 unfold jc
 rw[List.take_add_one,h,List.foldl_append]
 rfl
theorem rW:(Tryz.prog.info? 9).map (fun i=>(i.zero,i.size,i.bytes))=some (some (.string ByteArray.empty),1,16):=by kernel_rfl
theorem xJ (l:List T)(hl:l.length≤600)(A:Option Addr)(c:Nat)(g:Nat)(st:jL)(w:World)(h:sU w g st)(hA:fA w g A l) :
 Calls Tryz.prog 59 #[.pointer (some ⟨g,0,none⟩),.slice A l.length c] w fun r w' =>
  (∃ A' c',r=.returned (.slice A' l.length c')∧l.length≤c'∧Lies w' (fun k=>w.heap.size≤k∧k<w'.heap.size) A' (strs (l.map T.s)))∧Only g w w'∧sU w' g (jc l st):=by
 obtain⟨ln,rH⟩:∃ ln,ln=l.length:=⟨_,rfl⟩
 have HK:=ae hA
 have hlt:=h.lt
 have HR:=ae h
 have kC:=ae rH
 obtain⟨i0,hi,hz0,hz1,hz2⟩:=info_parts rW
 rw[←rH] at hl ⊢
 clear hA h rH
 go_enter Tryz.func59,Tryz.ntmps59
 go_wp2_with fail
 go_loopw [5,10] (fun v i wr=>∃ (j:Nat)(A':Option Addr)(c':Nat),j≤ln∧i=.int .i64 j∧v=.slice A' j c'∧wr.ownsRow w.heap.size 9 1 (.slice A' j c') j (strs ((l.map T.s).take j))∧Only g w wr∧Hid (sU wr g (jc (l.take j) st))) (fun _ i _=>ln-(intOf i).toNat)
 case atStart=>exact⟨0,none,0,aX _,rfl,rfl,⟨rfl,.inl ⟨rfl,rfl⟩⟩,Only.refl _ _,HR⟩
 case round =>
  obtain⟨j,A',c',hj,rfl,rfl,hown,ho,hra⟩:=hrel
  have HO:=ae hown
  have HB:=ae ho
  have hs:=ho.size
  clear hown ho
  by_cases hlt2:j<ln
  ·obtain⟨x,hx⟩:∃ x,l[j]?=some x:=⟨_,aO (by rw[←kC.o];exact hlt2)⟩
   have htk:=ae (GR (l:=l.map T.s) (j:=j) (x:=x.s) (by rw[bP,hx];rfl))
   have hrs:=ae (J7 hx st)
   obtain⟨b,o,A2,c2,hA2,hbl,m1,m2,m3,m4,m5,hcx,hKx⟩:∃ b o A2 c2,A=some ⟨b,o,none⟩∧b<wr.heap.size∧wr.cell? ⟨b,o+j*5,none⟩=some (.int .i64 x.k)∧wr.cell? ⟨b,o+j*5+1,none⟩=some (.string x.s) ∧
    wr.cell? ⟨b,o+j*5+2,none⟩=some (.int .i64 x.n)∧wr.cell? ⟨b,o+j*5+3,none⟩=some (.slice A2 x.kids.length c2)∧wr.cell? ⟨b,o+j*5+4,none⟩=some (.int .i64 x.at_)∧x.kids.length≤c2∧True:=by
    have hKK:=HK.o.low (HB.o.below (B:=g) (bV hlt) (aF _))
    obtain⟨b,o,A2,c2,e0,e1,e2,e3,e4,e5,e6,e7,_⟩:=(hKK.more (B':=wr.heap.size) (by omega)).gy wr (aG _ _) j x hx
    exact⟨b,o,A2,c2,e0,e1,e2,e3,e4,e5,e6,e7,trivial⟩
   subst hA2
   obtain⟨wx,iK⟩:∃ wx,wx=wr.alloc (.cells #[.int .i64 x.k,.string x.s,.int .i64 x.n,.slice A2 x.kids.length c2,.int .i64 x.at_] 71):=⟨_,rfl⟩
   have hbx:Below wr.heap.size wr wx:=by rw[iK];exact (aG _ _).alloc (aF _) _
   have hnx:wx.heap[wr.heap.size]?=some (.cells #[.int .i64 x.k,.string x.s,.int .i64 x.n,.slice A2 x.kids.length c2,.int .i64 x.at_] 71 (0,0)):=by rw[iK];exact aH wr _
   have hcl:=ae (ji x A2 c2 g _ wx (hra.o.kept hbx))
   have ni:=ae iK
   have jW:=ae hbx
   obtain⟨⟨n0,n1',n2',n3,n4⟩,_,_,_,_,_⟩:=dN hnx
   have hsx:wr.heap.size≤wx.heap.size:=hbx.size
   rw[←hrs.o] at hcl
   clear hx hKx hcx iK hbx hnx hra
   obtain⟨xk,xs,xn,xl,xa⟩:=x
   simp only[T.val,T.k,T.s,T.n,T.kids,T.at_] at m1 m2 m3 m4 m5 hcl ni n0 n1' n2' n3 n4 htk
   generalize xl.length=xm at *
   go_upto_region 5 with (fail)
   rw[←ni.o]
   go_wp2_with fail
   refine (hcl.o).mono ?_
   rintro e w2 ⟨rfl,ho2,hr2⟩
   have HR2:=ae hr2
   have QZ:=ae (uX (own_below HO.o jW.o) ho2 hlt)
   have HB2:=ae ((HB.o.bel jW.o).trans ho2)
   have hs2:=HB2.o.size
   clear ho2 hr2
   go_wp2_with (at_builtin;refine wpList_append_own _ rfl _ _ 23 rfl w.heap.size 9 i0 _ 1 16 Tryz.underlying23 hi hz0 hz1 hz2 rfl (by decide) (.slice A' j c') j (strs ((l.map T.s).take j)) rfl (own_below QZ.o ((aG w2.heap.size w2).alloc (aF _) _)) ⟨w2.heap.size,0,none⟩ 1 1 [.string xs] rfl rfl ?c1 ?c2 ?c3 ?c4 ?c5 ?_)
   case c1=>exact bz (aH w2 _)
   case c2=>first|rfl|(intro u hu;simp at hu;subst hu;rfl)
   case c3=>unfold maxLen;omega
   case c4=>omega
   case c5=>first|omega|(simp;omega)
   intro v' w5 hown5 hgrow _
   have JJ:=(HB2.o.alloc (.cells #[.string xs] 9)).grown hgrow (fun k e=>(QZ.o.lt k e).1)
   have hR5:sU w5 g (jc (List.take (j+1) l) st):=by
    refine (hgrow.block g (by simp;omega) (fun e=>?_)).trans (HR2.o.kept ((aG _ _).alloc (aF _) _))
    have:=(QZ.o.lt g e.symm).1
    omega
   obtain⟨g5,cap5,XA,_⟩:=hown5.form (by omega)
   subst XA
   have jq:Hid (w5.ownsRow w.heap.size 9 1 (.slice (some ⟨g5,0,none⟩) (j+1) cap5) (j+1) (strs ((l.map T.s).take (j+1)))):=ae (by
    rw[htk.o]
    exact hown5)
   have jA:=ae JJ
   have wU:=ae hR5
   clear hown5 hgrow JJ hR5
   go_wp2_with fail
   go_roundw
   case rel=>exact⟨j+1,_,cap5,by omega,by go_num,rfl,jq.o,jA.o,wU⟩
   case measure=>simp[intOf];omega
  ·obtain rfl:j=ln:=by omega
   obtain⟨A3,c3,e3,hc3,hL⟩:=oH HO.o (S:=fun k=>w.heap.size≤k∧k<wr.heap.size) (fun k h1 h2=>⟨h1,h2⟩)
   obtain⟨rfl,rfl⟩:A'=A3∧c'=c3:=by injection e3 with e4 _ e5;exact⟨e4,e5⟩
   have hml:(l.map T.s).take j=l.map T.s:=bJ (by rw[bM];exact Nat.le_of_eq kC.o.symm)
   have aam:l.take j=l:=bJ (Nat.le_of_eq kC.o.symm)
   rw[hml] at hL
   have HL:=ae hL
   have J8:Hid (sU wr g (jc l st)):=by rw[aam] at hra;exact hra
   clear hL hra e3
   go_wp2_with fail
   go_ret
   exact⟨⟨A',c',rfl,hc3,HL.o⟩,HB.o,J8.o⟩
theorem yM {fn:Func} {p:Tmp} (h:fn.results=#[.cell p 38]) {tmps:Array Value} {w:World} {g:Nat} {x0 x1 x2 x3:Value} {t:TypeId}
 (hp:tmps.getD p undef=.pointer (some ⟨g,0,none⟩))(hg:w.heap[g]?=some (.cells #[x0,x1,x2,x3] t (0,0))):(results fn tmps).run Tryz.prog w=.ok (.agg #[x0,x1,x2,x3]) w:=by
 have hp':tmps[p]?.getD undef=.pointer (some ⟨g,0,none⟩):=by simpa using hp
 have hl:=run_loadVar_row (P:=Tryz.prog) w g t 38 #[x0,x1,x2,x3] (0,0) _ hg Tryz.underlying38 rfl (by show _=some 4;kernel_rfl)
 simp[results,h,hp',asAddr,hl]
theorem GU (t:T)(A:Option Addr)(c:Nat)(g:Nat)(st:jL)(w:World)(h:sU w g st)(hc:t.kids.length≤c)(hA:fA w w.heap.size A t.kids) :
 Calls Tryz.prog 58 #[.pointer (some ⟨g,0,none⟩),t.val A c] w fun r w' =>
  (∃ A' c',r=.returned ((dX t).1.val A' c')∧jG w' (fun k=>w.heap.size≤k∧k<w'.heap.size) A' (dX t).1.kids)∧Only g w w'∧sU w' g (qo t st):=by
 obtain⟨k,s,n,l,a⟩:=t
 simp only[T.val,T.k,T.s,T.n,T.kids,T.at_] at hc hA ⊢
 have hlt:=h.lt
 obtain⟨wa,qx⟩:∃ wa,wa=w.alloc (.cells #[.int .i64 k,.string s,.int .i64 n,.slice A l.length c,.int .i64 a] 71):=⟨_,rfl⟩
 have hba:Below w.heap.size w wa:=by rw[qx];exact (aG _ _).alloc (aF _) _
 have hsa:wa.heap.size=w.heap.size+1:=by rw[qx];simp
 have hxa:wa.heap[w.heap.size]?=some (.cells #[.int .i64 k,.string s,.int .i64 n,.slice A l.length c,.int .i64 a] 71 (0,0)):=by rw[qx];exact aH w _
 obtain⟨w1,dZ⟩:∃ w1,w1=wa.alloc (.cells #[.int .i64 0,.string ⟨#[]⟩,.int .i64 0,.slice none 0 0] 38):=⟨_,rfl⟩
 have hb1:Below wa.heap.size wa w1:=by rw[dZ];exact (aG _ _).alloc (aF _) _
 have hs1:w1.heap.size=w.heap.size+2:=by rw[dZ];simp;omega
 have hr1:w1.heap[w.heap.size+1]?=some (.cells #[.int .i64 0,.string ⟨#[]⟩,.int .i64 0,.slice none 0 0] 38 (0,0)):=by rw[dZ,←hsa];exact aH wa _
 have hx1:w1.heap[w.heap.size]?=some (.cells #[.int .i64 k,.string s,.int .i64 n,.slice A l.length c,.int .i64 a] 71 (0,0)):=(hb1.block _ (by omega)).trans hxa
 have hbw:Below w.heap.size w w1:=hba.trans (hb1.mono (by omega))
 have hrd:=ae (Uk (.mk k s n l a) A c w1 hc ((hA.low hbw).more hbw.size))
 have HW1:=ae (show w1=(w.alloc (.cells #[.int .i64 k,.string s,.int .i64 n,.slice A l.length c,.int .i64 a] 71)).alloc (.cells #[.int .i64 0,.string ⟨#[]⟩,.int .i64 0,.slice none 0 0] 38) by rw[dZ,qx])
 have HR:=ae (h.kept hbw)
 have jJ:=ae hx1
 have HR1:=ae hr1
 have HB1:=ae hbw
 obtain⟨⟨k0,k1,k2,k3,k4⟩,_,_,_,_,_⟩:=dN hx1
 rw[show qo (.mk k s n l a) st=if (dX (.mk k s n l a)).2.1=0 then st else yH (dX (.mk k s n l a)).2.1 (dX (.mk k s n l a)).2.2 st from rfl]
 generalize dX (.mk k s n l a)=q at *
 obtain⟨e,y,z⟩:=q
 obtain⟨ek,es,en,el⟩:=e
 simp only[T.val,E.val,E.k,E.s,E.n,E.kids,T.k,T.s,T.n,T.kids,T.at_] at hrd ⊢
 clear qx hba hsa hxa dZ hb1 hr1 hx1 hbw h hA wa hc
 have hs1':w.heap.size+1<w1.heap.size:=by omega
 clear hs1
 generalize l.length=m at *
 obtain⟨em,eem⟩:∃ em,em=el.length:=⟨_,rfl⟩
 rw[←eem] at hrd ⊢
 clear eem
 go_enter Tryz.func58,Tryz.ntmps58
 go_upto_region 1 with (fail)
 rw[←HW1.o]
 go_wp2_with fail
 refine (hrd.o).mono ?_
 rintro r w2 ⟨⟨A',c',rfl,hX⟩,hb⟩
 have hs2:=hb.size
 have HX:=ae hX
 have ZC:=ae (HR.o.kept hb)
 have HB2:=ae (HB1.o.trans (hb.mono HB1.o.size))
 have HT2:=ae ((hb.block (w.heap.size+1) hs1').trans HR1.o)
 clear hb hX
 obtain⟨w3,ny⟩:∃ w3,w3=w2.alloc (.cells #[.int .i64 ek,.string es,.int .i64 en,.slice A' em c'] 38):=⟨_,rfl⟩
 have hb3:Below w2.heap.size w2 w3:=by rw[ny];exact (aG _ _).alloc (aF _) _
 have hs3:w2.heap.size<w3.heap.size:=by rw[ny];simp
 have hx3:w3.heap[w2.heap.size]?=some (.cells #[.int .i64 ek,.string es,.int .i64 en,.slice A' em c'] 38 (0,0)):=by rw[ny];exact aH w2 _
 have HW3:=ae ny
 have nO:=ae hx3
 have HB3:=ae hb3
 have ZE:=ae (ZC.o.kept hb3)
 have HT3:=ae ((hb3.block (w.heap.size+1) (by omega)).trans HT2.o)
 clear ny hb3 hx3
 have hrf:=ae (ik g st y z w3 ZE.o)
 go_upto_region 2 with (fail)
 rw[←HW3.o]
 by_cases h0:y=0
 ·subst h0
  obtain⟨⟨p0,p1,p2,p3⟩,_,_,_,_⟩:=fQ nO.o
  obtain⟨⟨r0,r1,r2,r3⟩,s0,s1,s2,s3⟩:=fQ HT3.o
  clear hrf
  go_wp2_with fail
  refine aJ (yM rfl rfl (eY HT3.o)) rfl ?_
  first
   | refine⟨⟨A',c',rfl,?_⟩,?_,?_⟩
   | refine⟨⟨A',⟨c',rfl⟩,?_⟩,?_,?_⟩
  ·exact (HX.o.kept fun k hk=>(kF (by have:=hk.1;omega)).trans (HB3.o.block k hk.2)).mono fun k hk=>⟨by have:=hk.1;omega,aQ (by have:=hk.2;omega) rO.symm⟩
  ·exact dU (fC (HB2.o.trans (HB3.o.mono (by have:=HB2.o.size;omega))) (aW _))
  ·try rw[if_pos rfl]
   exact (kF (by omega)).trans ZE.o
 ·have h0':(y==0)=false:=by simpa using h0
  go_wp2_with fail
  refine (hrf.o).mono ?_
  rintro r w4 ⟨rfl,ho,hr4⟩
  have HO:=ae ho
  have HR4:=ae hr4
  have uz:=ae ((ho.block w2.heap.size (by omega) (by omega)).trans nO.o)
  have HT4:=ae ((ho.block (w.heap.size+1) (by omega) (by omega)).trans HT3.o)
  have hs4:=ho.size
  clear ho hr4
  obtain⟨⟨p0,p1,p2,p3⟩,_,_,_,_⟩:=fQ uz.o
  obtain⟨⟨r0,r1,r2,r3⟩,s0,s1,s2,s3⟩:=fQ HT4.o
  go_wp2_with fail
  refine aJ (yM rfl rfl (eY HT4.o)) rfl ?_
  first
   | refine⟨⟨A',c',rfl,?_⟩,?_,?_⟩
   | refine⟨⟨A',⟨c',rfl⟩,?_⟩,?_,?_⟩
  ·exact (HX.o.kept fun k hk=>(kF (by have:=hk.1;omega)).trans ((HO.o.block k (by have:=hk.2;omega) (by have:=hk.1;omega)).trans (HB3.o.block k hk.2))).mono fun k hk=>⟨by have:=hk.1;omega,aQ (by have:=hk.2;omega) rO.symm⟩
  ·exact ((((((dU (HB2.o.trans (HB3.o.mono (by have:=HB2.o.size;omega)))).trans HO.o).dQ (p:=⟨w.heap.size+1,0,none⟩) (aW _) _).dQ (p:=⟨w.heap.size+1,1,none⟩) (aW _) _).dQ (p:=⟨w.heap.size+1,2,none⟩) (aW _) _).dQ (p:=⟨w.heap.size+1,3,none⟩) (aW _) _)
  ·try rw[if_neg h0]
   exact (kF (by omega)).trans HR4.o
theorem EJ (c:UInt8)(w:World):Calls Tryz.prog 96 #[.int .u8 (c.toNat:Int)] w fun e w'=>e=.returned (.bool (o9 c))∧w=w':=by
 unfold o9
 cases a1:decide (97≤(c.toNat:Int))
 ·go_enter Tryz.func96,Tryz.ntmps96
  go_wp2
  go_ret
  exact⟨rfl,rfl⟩
 ·cases a2:decide ((c.toNat:Int)≤122)
  all_goals
   go_enter Tryz.func96,Tryz.ntmps96
   go_wp2
   go_ret
   exact⟨rfl,rfl⟩
theorem Iu (c:UInt8)(w:World):Calls Tryz.prog 97 #[.int .u8 (c.toNat:Int)] w fun e w'=>e=.returned (.bool (oO c))∧w=w':=by
 unfold oO
 cases a1:decide (48≤(c.toNat:Int))
 ·go_enter Tryz.func97,Tryz.ntmps97
  go_wp2
  go_ret
  exact⟨rfl,rfl⟩
 ·cases a2:decide ((c.toNat:Int)≤57)
  all_goals
   go_enter Tryz.func97,Tryz.ntmps97
   go_wp2
   go_ret
   exact⟨rfl,rfl⟩
theorem Iw {w:World} {g n c:Nat} {A:Option Addr} {x y:Value} {t:TypeId} (h:w.heap[g]?=some (.cells #[x,y,.slice A n c] t (0,0))) :
 Calls Tryz.prog 55 #[.pointer (some ⟨g,0,none⟩)] w fun e w'=>e=.returned (.bool (decide (0<n)))∧w=w':=by
 have h0:w.cell? ⟨g,2,none⟩=some (.slice A n c):=by simp[World.cell?,h]
 clear h
 go_enter Tryz.func55,Tryz.ntmps55
 go_wp2
 go_ret
 exact⟨rfl,rfl⟩
theorem LM (s:ByteArray)(p:Nat)(hp:p≤s.size)(hs:s.size≤600)(w:World):Calls Tryz.prog 98 #[.string s,.int .i64 (p:Int),.func (.func 96) #[] #[]] w fun e w'=>e=.returned (.int .i64 (kP o9 s p))∧w=w':=by
 have hL:=ae (fun c=>EJ c w)
 go_enter Tryz.func98,Tryz.ntmps98
 go_wp2_with fail
 go_loop [7] (fun i=>∃ k:Nat,k≤s.size∧i=.int .i64 k∧Hid (kP o9 s k=kP o9 s p)) (fun i=>s.size-(intOf i).toNat)
 case atStart=>exact⟨p,hp,rfl,ae rfl⟩
 case round =>
  obtain⟨k,hk,rfl,hR⟩:=hrel
  by_cases hks:k<s.size
  ·have hlk:=ae (hL.o s[k])
   have HB:=ae (uw hks)
   cases hlt:o9 s[k]
   ·rw[hlt] at hlk
    have hR':=hR.o
    rw[wI (by rw[HB.o];exact hlt)] at hR'
    have HR:=ae hR'
    clear hR' hlt
    go_wp2_with fail
    refine (hlk.o).mono ?_
    rintro e w' ⟨rfl,rfl⟩
    go_wp2_with fail
    go_ret
    exact⟨by rw[←HR.o];rfl,rfl⟩
   ·rw[hlt] at hlk
    have hR':=hR.o
    rw[rU hks (by rw[HB.o];exact hlt)] at hR'
    have HR:=ae hR'
    clear hR' hlt
    go_wp2_with fail
    refine (hlk.o).mono ?_
    rintro e w' ⟨rfl,rfl⟩
    go_wp2_with fail
    go_round
    case rel=>exact⟨k+1,by omega,by go_num,HR⟩
    case measure=>simp[intOf];omega
  ·obtain rfl:k=s.size:=by omega
   have hR':=hR.o
   rw[yG (by omega)] at hR'
   have HR:=ae hR'
   clear hR'
   go_wp2_with fail
   go_ret
   exact⟨by rw[←HR.o];rfl,rfl⟩
theorem EK (s:ByteArray)(p:Nat)(hp:p≤s.size)(hs:s.size≤600)(w:World):Calls Tryz.prog 98 #[.string s,.int .i64 (p:Int),.func (.func 97) #[] #[]] w fun e w'=>e=.returned (.int .i64 (kP oO s p))∧w=w':=by
 have hL:=ae (fun c=>Iu c w)
 go_enter Tryz.func98,Tryz.ntmps98
 go_wp2_with fail
 go_loop [7] (fun i=>∃ k:Nat,k≤s.size∧i=.int .i64 k∧Hid (kP oO s k=kP oO s p)) (fun i=>s.size-(intOf i).toNat)
 case atStart=>exact⟨p,hp,rfl,ae rfl⟩
 case round =>
  obtain⟨k,hk,rfl,hR⟩:=hrel
  by_cases hks:k<s.size
  ·have hlk:=ae (hL.o s[k])
   have HB:=ae (uw hks)
   cases hlt:oO s[k]
   ·rw[hlt] at hlk
    have hR':=hR.o
    rw[wI (by rw[HB.o];exact hlt)] at hR'
    have HR:=ae hR'
    clear hR' hlt
    go_wp2_with fail
    refine (hlk.o).mono ?_
    rintro e w' ⟨rfl,rfl⟩
    go_wp2_with fail
    go_ret
    exact⟨by rw[←HR.o];rfl,rfl⟩
   ·rw[hlt] at hlk
    have hR':=hR.o
    rw[rU hks (by rw[HB.o];exact hlt)] at hR'
    have HR:=ae hR'
    clear hR' hlt
    go_wp2_with fail
    refine (hlk.o).mono ?_
    rintro e w' ⟨rfl,rfl⟩
    go_wp2_with fail
    go_round
    case rel=>exact⟨k+1,by omega,by go_num,HR⟩
    case measure=>simp[intOf];omega
  ·obtain rfl:k=s.size:=by omega
   have hR':=hR.o
   rw[yG (by omega)] at hR'
   have HR:=ae hR'
   clear hR'
   go_wp2_with fail
   go_ret
   exact⟨by rw[←HR.o];rfl,rfl⟩
def Errs (w:World):Prop:=(2<w.heap.size∧∃ ev,w.cell? ⟨2,0,none⟩=some ev∧(ev=.nilIface∨∃ te pe,ev=.iface te pe)) ∧
 (3<w.heap.size∧∃ ev,w.cell? ⟨3,0,none⟩=some ev∧(ev=.nilIface∨∃ te pe,ev=.iface te pe))
theorem Errs.kept {B:Nat} {w w':World} (h:Errs w)(hB:2<B∧3<B)(hb:Below B w w'):Errs w':=by
 obtain⟨⟨h1,e1,c1,d1⟩,⟨h2,e2,c2,d2⟩⟩:=h
 have hs:=hb.size
 exact⟨⟨by omega,e1,(hb.cell (p:=⟨_,0,none⟩) hB.1).trans c1,d1⟩,⟨by omega,e2,(hb.cell (p:=⟨_,0,none⟩) hB.2).trans c2,d2⟩⟩
theorem Errs.lt {w:World} (h:Errs w):2<w.heap.size∧3<w.heap.size:=⟨h.1.1,h.2.1⟩
theorem Errs.below {w w':World} (h:Errs w)(hb:Below w.heap.size w w'):Errs w':=h.kept h.lt hb
def wR:Prop:=∀ (x:ByteArray)(w:World),x.size≤600→Errs w→Calls Tryz.prog 136 #[.string x,.int .i64 10,.int .i64 64] w fun e w' =>
 ((∃ v,Lib.parseIntB 64 x.data.toList=.ok v∧e=.returned (.tuple #[.int .i64 v,.nilIface]))∨((∀ v,Lib.parseIntB 64 x.data.toList≠.ok v)∧∃ n te pe,e=.returned (.tuple #[.int .i64 n,.iface te pe])))∧Below w.heap.size w w'
def LP (o:Option (Int×Nat))(e:Ending):Prop:=e=.returned (match o with|some (n,k)=>.tuple #[.int .i64 n,.int .i64 (k:Int)]|none=>.tuple #[.int .i64 0,.int .i64 (-1)])
theorem EL (hP:wR)(s:ByteArray)(p:Nat)(hp:p<s.size)(hs:s.size≤600)(w:World)(hE:Errs w):Calls Tryz.prog 99 #[.string s,.int .i64 (p:Int)] w fun e w'=>LP (jX s p) e∧Below w.heap.size w w':=by
 have HB:=ae (uw hp)
 cases h45:((s[p].toNat:Int)==45)
 ·
  have hnf:l7 s p=p:=by unfold l7;rw[HB.o,if_neg (by simpa using h45)]
  have hr:=EK s (p) (by omega) hs w
  rw[show ((p:Nat):Int)=(p:Int) by omega] at hr
  have hge:=qM (p:=oO) (s:=s) _ (p) rfl
  have hN:Hid (jX s p=if kP oO s (p)=p then none else match Lib.parseIntB 64 (s.extract p (kP oO s (p))).data.toList with|.ok v=>some (v,kP oO s (p))|_=>none):=ae (by rw[jX,hnf] <;> rfl)
  obtain⟨k,hk⟩:∃ k,kP oO s (p)=k:=⟨_,rfl⟩
  rw[hk] at hr hge hN
  have HR:=ae hr
  have hk1:p≤k:=by omega
  have hk2:k≤s.size:=hge.2 (by omega)
  clear hr hge hk hnf
  have hPx:=ae (hP (s.extract p k) w (by rw[ByteArray.size_extract];omega) hE)
  cases hkf:((k:Int)==(p:Int))
  ·have hkn:¬k=p:=by have:=hkf;simp at this;omega
   have Jb:=hN.o
   rw[if_neg hkn] at Jb
   have HN:=ae Jb
   clear Jb hN hkn hE
   go_enter Tryz.func99,Tryz.ntmps99
   go_wp2_with fail
   refine (HR.o).mono ?_
   rintro e w' ⟨rfl,rfl⟩
   go_wp2_with fail
   refine (hPx.o).mono ?_
   rintro e w1 ⟨hcase,hb⟩
   have HB1:=ae hb
   rcases hcase with⟨v,hv,rfl⟩|⟨hv,n,te,pe,rfl⟩
   ·have Jc:=HN.o
    rw[hv] at Jc
    have HN:=ae Jc
    clear Jc hv hb
    go_wp2_with fail
    go_ret2
    exact⟨by rw[HN.o];exact rfl,HB1.o⟩
   ·have Jc:jX s p=none:=by
     rw[HN.o]
     cases h:Lib.parseIntB 64 (s.extract p k).data.toList with
     | ok v=>exact absurd h (hv v)
     | «syntax»=>rfl
     | range=>rfl
    have HN:=ae Jc
    clear Jc hv hb
    go_wp2_with fail
    go_ret2
    exact⟨by rw[HN.o];exact rfl,HB1.o⟩
  ·have hkn:k=p:=by have:=hkf;simp at this;omega
   have Jb:=hN.o
   rw[if_pos hkn] at Jb
   have HN:=ae Jb
   clear Jb hN hkn hE
   go_enter Tryz.func99,Tryz.ntmps99
   go_wp2_with fail
   refine (HR.o).mono ?_
   rintro e w' ⟨rfl,rfl⟩
   go_wp2_with fail
   refine (hPx.o).mono ?_
   rintro e w1 ⟨hcase,hb⟩
   have HB1:=ae hb
   clear hb
   rcases hcase with⟨v,_,rfl⟩|⟨_,n,te,pe,rfl⟩
   all_goals
    go_wp2_with fail
    go_ret2
    exact⟨by rw[HN.o];exact rfl,HB1.o⟩
 ·
  have hnf:l7 s p=p+1:=by unfold l7;rw[HB.o,if_pos (by simpa using h45)]
  have hr:=EK s (p+1) (by omega) hs w
  rw[show ((p+1:Nat):Int)=(p:Int)+1 by omega] at hr
  have hge:=qM (p:=oO) (s:=s) _ (p+1) rfl
  have hN:Hid (jX s p=if kP oO s (p+1)=p+1 then none else match Lib.parseIntB 64 (s.extract p (kP oO s (p+1))).data.toList with|.ok v=>some (v,kP oO s (p+1))|_=>none):=ae (by rw[jX,hnf] <;> rfl)
  obtain⟨k,hk⟩:∃ k,kP oO s (p+1)=k:=⟨_,rfl⟩
  rw[hk] at hr hge hN
  have HR:=ae hr
  have hk1:p≤k:=by omega
  have hk2:k≤s.size:=hge.2 (by omega)
  clear hr hge hk hnf
  have hPx:=ae (hP (s.extract p k) w (by rw[ByteArray.size_extract];omega) hE)
  cases hkf:((k:Int)==(p:Int)+1)
  ·have hkn:¬k=p+1:=by have:=hkf;simp at this;omega
   have Jb:=hN.o
   rw[if_neg hkn] at Jb
   have HN:=ae Jb
   clear Jb hN hkn hE
   go_enter Tryz.func99,Tryz.ntmps99
   go_wp2_with fail
   refine (HR.o).mono ?_
   rintro e w' ⟨rfl,rfl⟩
   go_wp2_with fail
   refine (hPx.o).mono ?_
   rintro e w1 ⟨hcase,hb⟩
   have HB1:=ae hb
   rcases hcase with⟨v,hv,rfl⟩|⟨hv,n,te,pe,rfl⟩
   ·have Jc:=HN.o
    rw[hv] at Jc
    have HN:=ae Jc
    clear Jc hv hb
    go_wp2_with fail
    go_ret2
    exact⟨by rw[HN.o];exact rfl,HB1.o⟩
   ·have Jc:jX s p=none:=by
     rw[HN.o]
     cases h:Lib.parseIntB 64 (s.extract p k).data.toList with
     | ok v=>exact absurd h (hv v)
     | «syntax»=>rfl
     | range=>rfl
    have HN:=ae Jc
    clear Jc hv hb
    go_wp2_with fail
    go_ret2
    exact⟨by rw[HN.o];exact rfl,HB1.o⟩
  ·have hkn:k=p+1:=by have:=hkf;simp at this;omega
   have Jb:=hN.o
   rw[if_pos hkn] at Jb
   have HN:=ae Jb
   clear Jb hN hkn hE
   go_enter Tryz.func99,Tryz.ntmps99
   go_wp2_with fail
   refine (HR.o).mono ?_
   rintro e w' ⟨rfl,rfl⟩
   go_wp2_with fail
   refine (hPx.o).mono ?_
   rintro e w1 ⟨hcase,hb⟩
   have HB1:=ae hb
   clear hb
   rcases hcase with⟨v,_,rfl⟩|⟨_,n,te,pe,rfl⟩
   all_goals
    go_wp2_with fail
    go_ret2
    exact⟨by rw[HN.o];exact rfl,HB1.o⟩
def zI:Prop:=∀ (c:Int)(w:World),Calls Tryz.prog 160 #[.string hexDigits,.int .u8 c] w fun e w'=>e=.returned (.int .i64 (Lib.indexByte hexDigits.data.toList c.toNat.toUInt8))∧w'=w
theorem Yu (hH:zI)(c:UInt8)(w:World):Calls Tryz.prog 137 #[.int .u8 (c.toNat:Int)] w fun e w'=>e=.returned (.int .i64 (mg c))∧w=w':=by
 have hx:=hH (c.toNat:Int) w
 rw[show ((c.toNat:Int).toNat.toUInt8)=c by simp] at hx
 have hx:Calls Tryz.prog 160 #[.string ⟨#[48,49,50,51,52,53,54,55,56,57,97,98,99,100,101,102]⟩,.int .u8 (c.toNat:Int)] w fun e w'=>e=.returned (.int .i64 (mg c))∧w'=w:=hx
 have HX:=ae hx
 clear hx
 generalize mg c=h at *
 go_enter Tryz.func137,Tryz.ntmps137
 go_wp2_with fail
 refine (HX.o).mono ?_
 rintro e w' ⟨rfl,rfl⟩
 go_wp2_with fail
 go_ret
 exact⟨rfl,rfl⟩
def hexL:List UInt8:=[48,49,50,51,52,53,54,55,56,57,97,98,99,100,101,102]
def hexD (n:Nat):UInt8:=hexL.getD n 0
def qF (c:UInt8):Bool:=((decide (32≤(c.toNat:Int))&&decide ((c.toNat:Int)≤126))&&(c.toNat:Int) != 34)&&(c.toNat:Int) != 92
def qB (c:UInt8):List UInt8:=if qF c then [c] else [92,hexD (c.toNat / 16),hexD (c.toNat % 16)]
def tu (l:List UInt8):List UInt8:=34::l.flatMap qB++[34]
def y8 (v:V):List UInt8:=if V.okB v then (if v.k==1 then Lib.itoa v.n else tu v.s.data.toList) else [63]
theorem Rj:∀ c:Fin 256,bits BinOp.and IntKind.u8 ((c.val:Nat):Int) 15=((c.val:Nat):Int) % 16:=by decide +kernel
theorem ZI (c:UInt8):bits BinOp.and IntKind.u8 (c.toNat:Int) 15=(c.toNat:Int) % 16:=Rj ⟨c.toNat,c.toNat_lt⟩
theorem Qb:∀ i:Fin 16,∀ h,(ByteArray.mk #[48,49,50,51,52,53,54,55,56,57,97,98,99,100,101,102])[i.val]'h=hexD i.val:=by decide +kernel
theorem aat (c:UInt8):∀ h,(ByteArray.mk #[48,49,50,51,52,53,54,55,56,57,97,98,99,100,101,102])[((c.toNat:Int) / 16).toNat]'h=hexD (c.toNat / 16):=by
 intro h
 have e:((c.toNat:Int) / 16).toNat=c.toNat / 16:=by omega
 have hl:c.toNat / 16<16:=by have:=c.toNat_lt;omega
 have:=Qb ⟨c.toNat / 16,hl⟩ (show c.toNat / 16<16 from hl)
 simpa only[e] using this
theorem aau (c:UInt8):∀ h,(ByteArray.mk #[48,49,50,51,52,53,54,55,56,57,97,98,99,100,101,102])[((c.toNat:Int) % 16).toNat]'h=hexD (c.toNat % 16):=by
 intro h
 have e:((c.toNat:Int) % 16).toNat=c.toNat % 16:=by omega
 have hl:c.toNat % 16<16:=by omega
 have:=Qb ⟨c.toNat % 16,hl⟩ (show c.toNat % 16<16 from hl)
 simpa only[e] using this
theorem UE (s:ByteArray)(k:Nat)(h:k<s.size):(s.data.toList.take (k+1)).flatMap qB=(s.data.toList.take k).flatMap qB++qB s[k]:=by
 rw[List.take_succ_eq_append_getElem (by simpa using h),List.flatMap_append]
 simp
 rfl
theorem ado (c:UInt8):(qB c).length≤3:=by unfold qB;split <;> simp
theorem Qc (l:List UInt8):(l.flatMap qB).length≤3*l.length:=by
 induction l with
 | nil=>simp
 | cons c l ih=>have:=ado c;simp only[List.flatMap_cons,aZ,bf];omega
theorem Rk (s:ByteArray)(hs:s.size≤40)(n:Int)(k:Int)(hk:(k==2)=true)(hok:V.okB ⟨k,n,s⟩=true)(w:World) :
 Calls Tryz.prog 63 #[.agg #[.int .i64 k,.int .i64 n,.string s]] w fun e w'=>e=.returned (.string ⟨(tu s.data.toList).toArray⟩)∧Below w.heap.size w w':=by
 obtain⟨i0,hi0,hz0,hz1,hz2⟩:=info_parts XJ
 have hr:=ae (Bq k n s)
 have hk1:(k==1)=false:=by simp at hk ⊢;omega
 rw[hok] at hr
 clear hok
 go_enter Tryz.func63,Tryz.ntmps63
 go_wp2_with fail
 refine (hr.o _).mono ?_
 rintro e w' ⟨rfl,rfl⟩
 go_wp2_with fail
 obtain⟨W0,hW0⟩:∃ W0,W0=w.alloc (.cells #[.int .i64 k,.int .i64 n,.string s] 114):=⟨_,rfl⟩
 have hbox:Hid (∀ w1,Below W0.heap.size W0 w1→w1.cell? ⟨w.heap.size,2,none⟩=some (.string s)):=ae fun w1 h1=>by
  subst hW0
  rw[h1.cell (by simp)]
  simp
 have hsz:W0.heap.size=w.heap.size+1:=by subst hW0;simp
 have hsz':=ae hsz
 have hB0:Hid (Below w.heap.size w W0):=ae (by subst hW0;exact (aG _ _).alloc (aF _) _)
 have hstart:Hid (OwnB W0.heap.size ((W0.alloc (.cells #[.int .i64 k,.int .i64 n,.string s] 114)).alloc (.cells #[.int .u8 34] 5)) (.slice (some ⟨w.heap.size+1+1,0,none⟩) 1 1) [34]):=ae (by
  have:=World.ownsRow_lit (base:=W0.heap.size) (e:=5) (size:=1) (W0.alloc (.cells #[.int .i64 k,.int .i64 n,.string s] 114)) #[.int .u8 34] 1 (by simp) (by decide) rfl
  have e:(W0.alloc (.cells #[.int .i64 k,.int .i64 n,.string s] 114)).heap.size=w.heap.size+1+1:=by simp[hsz]
  rw[e] at this
  exact this)
 have hB1:Hid (Below W0.heap.size W0 ((W0.alloc (.cells #[.int .i64 k,.int .i64 n,.string s] 114)).alloc (.cells #[.int .u8 34] 5))):=ae (((aG _ _).alloc (aF _) _).alloc (by simp) _)
 rw[←hW0]
 clear hW0 hsz
 go_loopw [3,22] (fun v i wr=>∃ j:Nat,j≤s.size∧i=.int .i64 j∧OwnB W0.heap.size wr v (34::(s.data.toList.take j).flatMap qB)∧Below W0.heap.size W0 wr) (fun _ i _=>s.size-(intOf i).toNat)
 case atStart=>exact⟨0,aX _,rfl,hstart.o,hB1.o⟩
 case round =>
  obtain⟨j,hj,rfl,hown,hb⟩:=hrel
  have HO:=ae hown
  have HB:=ae hb
  have hc:=hbox.o wr hb
  have hlen:Hid ((34::(s.data.toList.take j).flatMap qB).length≤200):=ae (by
   have:=Qc (s.data.toList.take j)
   have h2:(s.data.toList.take j).length≤j:=List.length_take_le _ _
   simp only[bf]
   omega)
  clear hown hb hstart hB1
  by_cases hlt:j<s.size
  ·have hst:Hid (34::(s.data.toList.take (j+1)).flatMap qB=(34::(s.data.toList.take j).flatMap qB)++qB s[j]):=ae (by rw[UE s j hlt];rfl)
   generalize (34::(s.data.toList.take j).flatMap qB)=cs at *
   generalize hcs2:(34::(s.data.toList.take (j+1)).flatMap qB)=cs2 at *
   have adp:=ae hcs2
   clear hcs2
   obtain⟨pc,hpc⟩:∃ pc,pc=qF s[j]:=⟨_,rfl⟩
   have F7:=ae hpc
   clear hpc
   go_upto_region 12 with (fail)
   go_cut [42] (fun s42 wx=>s42=.bool pc∧wx=wr)
   case first =>
    by_cases p1:32≤(s[j].toNat:Int)
    ·by_cases p2:(s[j].toNat:Int)≤126
     ·by_cases p3:((s[j].toNat:Int) != 34)=true
      ·obtain rfl:pc=((s[j].toNat:Int) != 92):=by rw[F7.o,qF,decide_eq_true p1,decide_eq_true p2,p3];rfl
       clear F7
       go_wp2_with fail
       go_meet
       exact⟨rfl,rfl⟩
      ·have p3':((s[j].toNat:Int) != 34)=false:=by simpa using p3
       obtain rfl:pc=false:=by rw[F7.o,qF,p3'];simp
       clear F7 p3
       go_wp2_with fail
       go_meet
       exact⟨rfl,rfl⟩
     ·obtain rfl:pc=false:=by rw[F7.o,qF,decide_eq_false p2];simp
      clear F7
      go_wp2_with fail
      go_meet
      exact⟨rfl,rfl⟩
    ·obtain rfl:pc=false:=by rw[F7.o,qF,decide_eq_false p1];simp
     clear F7
     go_wp2_with fail
     go_meet
     exact⟨rfl,rfl⟩
   case rest =>
   obtain⟨rfl,hwc⟩:=hcut
   obtain rfl:wr=wc:=hwc.symm
   clear hwc
   cases pc
   ·have hq:Hid (qB s[j]=[92,hexD (s[j].toNat / 16),hexD (s[j].toNat % 16)]):=ae (by unfold qB;rw[←F7.o];rfl)
    have c0:(0:Int)≤(s[j].toNat:Int):=by omega
    have c1:(s[j].toNat:Int)<256:=by have:=s[j].toNat_lt;omega
    have c2:(0:Int)≤(s[j].toNat:Int) / 16:=by omega
    have c3:(s[j].toNat:Int) / 16<16:=by omega
    have c4:(0:Int)≤(s[j].toNat:Int) % 16:=by omega
    have c5:(s[j].toNat:Int) % 16<16:=by omega
    have x1:=aat s[j]
    have x2:=aau s[j]
    have x3:=ZI s[j]
    go_wp2_with fail
    go_region_law (refine fG _ (by rfl) _ _ _ (by rfl) W0.heap.size 5 i0 _ 1 1 Tryz.underlying151 hi0 hz0 hz1 hz2 rfl (by omega) u3 _ _ (by rfl) ((HO.o.alloc _).drew) (wr.heap.size+1) (some ⟨wr.heap.size,0,none⟩) 3 3 [.int .u8 92,.int .u8 (hexD (s[j].toNat / 16)).toNat,.int .u8 (hexD (s[j].toNat % 16)).toNat] (by rfl) ⟨rfl,fun _=>⟨_,rfl,by simp,bz (cs:=#[.int .u8 92,.int .u8 (hexD (s[j].toNat / 16)).toNat,.int .u8 (hexD (s[j].toNat % 16)).toNat]) (t:=5) (fr:=(0,0)) (aH wr _)⟩⟩ (by simp[Value.oneCell']) (by have:=hlen.o;unfold maxLen;omega) (by have:=hlen.o;omega) (by have:=HB.o.size;simp;omega) ?_;intro v2 w2 hown2 hg2 UF)
    all_goals
     have hb3:=(HB.o.alloc HB.o.size (.cells #[.int .u8 92,.int .u8 (hexD (s[j].toNat / 16)).toNat,.int .u8 (hexD (s[j].toNat % 16)).toNat] 5)).drew.grown hg2 (by have:=HB.o.size;simp;omega) (fun k hk=>(HO.o.lt k hk).1)
     have hown3:OwnB W0.heap.size w2 v2 cs2:=ownB_of hown2 (by rw[hst.o,hq.o,xP];rfl)
     have QZ:=ae hown3
     have HB3:=ae hb3
     clear hown2 hg2 UF hb3 hown3 x1 x2 x3
     go_wp2_with fail
     go_roundw
     case rel=>exact⟨j+1,by omega,by go_num,by rw[adp.o];exact QZ.o,HB3.o⟩
     case measure=>simp[intOf];omega
   ·have hq:Hid (qB s[j]=[s[j]]):=ae (by unfold qB;rw[←F7.o];rfl)
    go_wp2_with (at_builtin;refine jQ _ rfl _ _ 151 rfl W0.heap.size 5 i0 _ 1 1 Tryz.underlying151 hi0 hz0 hz1 hz2 rfl (by decide) _ _ _ rfl (HO.o.alloc _) (wr.heap.size+1) (some ⟨wr.heap.size,0,none⟩) 1 1 [.int .u8 s[j].toNat] rfl ?d0 ?d4 ?d1 ?d2 ?d3 ?_)
    case d0=>exact⟨rfl,fun _=>⟨_,rfl,by simp,bz (cs:=#[.int .u8 s[j].toNat]) (t:=5) (fr:=(0,0)) (aH wr _)⟩⟩
    case d4=>intro u hu;simp at hu;subst hu;rfl
    case d1=>have:=hlen.o;unfold maxLen;omega
    case d2=>have:=hlen.o;omega
    case d3=>have:=HB.o.size;simp;omega
    intro v2 w2 hown2 hg2 UF
    have hb3:=(HB.o.alloc HB.o.size (.cells #[.int .u8 s[j].toNat] 5)).grown hg2 (by have:=HB.o.size;simp;omega) (fun k hk=>(HO.o.lt k hk).1)
    have hown3:OwnB W0.heap.size w2 v2 cs2:=ownB_of hown2 (by rw[hst.o,hq.o,xP];rfl)
    have QZ:=ae hown3
    have HB3:=ae hb3
    clear hown2 hg2 UF hb3 hown3
    go_wp2_with fail
    go_roundw
    case rel=>exact⟨j+1,by omega,by go_num,by rw[adp.o];exact QZ.o,HB3.o⟩
    case measure=>simp[intOf];omega
  ·obtain rfl:j=s.size:=by omega
   have hcs:Hid ((34::(s.data.toList.take s.size).flatMap qB)=34::s.data.toList.flatMap qB):=ae (by rw[bJ (by simp)])
   have hend:Hid ((34::(s.data.toList.take s.size).flatMap qB)++[34]=tu s.data.toList):=ae (by rw[hcs.o];rfl)
   generalize (34::(s.data.toList.take s.size).flatMap qB)=cs at *
   clear hcs hlt hj
   go_wp2_with (at_builtin;refine jQ _ rfl _ _ 151 rfl W0.heap.size 5 i0 _ 1 1 Tryz.underlying151 hi0 hz0 hz1 hz2 rfl (by decide) _ _ _ rfl (HO.o.alloc _) (wr.heap.size+1) (some ⟨wr.heap.size,0,none⟩) 1 1 [.int .u8 34] rfl ?d0 ?d4 ?d1 ?d2 ?d3 ?_)
   case d0=>exact⟨rfl,fun _=>⟨_,rfl,by simp,bz (cs:=#[.int .u8 34]) (t:=5) (fr:=(0,0)) (aH wr _)⟩⟩
   case d4=>intro u hu;simp at hu;subst hu;rfl
   case d1=>have:=hlen.o;unfold maxLen;omega
   case d2=>have:=hlen.o;omega
   case d3=>have:=HB.o.size;simp;omega
   intro v2 w2 hown2 hg2 UF
   have hb3:=(HB.o.alloc HB.o.size (.cells #[.int .u8 34] 5)).grown hg2 (by have:=HB.o.size;simp;omega) (fun k hk=>(HO.o.lt k hk).1)
   have hown3:OwnB W0.heap.size w2 v2 (tu s.data.toList):=ownB_of hown2 (by rw[←hend.o,xP];rfl)
   have HB3:=ae (hB0.o.trans (hb3.mono hB0.o.size))
   have hcv:=UD hown3
   clear hown2 hg2 UF hb3 hown3 hend
   go_wp2_with fail
   go_ret
   exact⟨rfl,HB3.o⟩
def uA (s:ByteArray):List UInt8:=if V.okB ⟨2,0,s⟩ then tu s.data.toList else [63]
mutual
def jr:T→List UInt8
 | .mk k s n l _=>if k=1 then 40::(Lib.join (kX l) [32]++[41]) else if k=2 then s.data.toList else if k=3 then Lib.itoa n else if k=4 then uA s else []
def kX:List T→List (List UInt8)
 | []=>[]
 | x::l=>jr x::kX l
end
theorem nV (l:List T):(kX l).length=l.length:=by
 induction l with
 | nil=>rfl
 | cons x l ih=>rw[kX,bf,bf,ih]
theorem BL {s:ByteArray} {i:Nat} {n:Int} {e:Nat} (hi:i<s.size)(h:jX s i=some (n,e)):i<e∧e≤s.size:=by
 unfold jX at h
 have hf:i≤l7 s i∧l7 s i≤s.size:=by unfold l7;split <;> omega
 have hr:=qM (p:=oO) (s:=s) _ (l7 s i) rfl
 split at h
 ·cases h
 ·rename_i hne
  split at h
  ·injection h with h
   injection h with _ h
   subst h
   exact⟨by omega,hr.2 hf.2⟩
  ·cases h
theorem D8 {s:ByteArray} {i:Nat} (wh:Bool)(hi:i<s.size):(iT s i wh).1.kids=[]∧((iT s i wh).2.2.1=0→(i:Int)<(iT s i wh).2.1∧(iT s i wh).2.1≤s.size∧wh=false)∧((iT s i wh).2.2.1≠0→0≤(iT s i wh).2.2.2∧(iT s i wh).2.2.2≤s.size):=by
 unfold iT
 split
 ·exact⟨rfl,fun h=>by simp at h,fun _=>⟨by simp only;omega,by simp only;omega⟩⟩
 ·rename_i hw
  have hwh:o9 (bt s i)=true∨oO (bt s i)=true∨((bt s i).toNat:Int)=45∨((bt s i).toNat:Int)=34→wh=false:=fun h=>by
   cases wh
   ·rfl
   ·exact absurd (by simp;rcases h with h|h|h|h <;> simp[h]) hw
  split
  ·rename_i hl
   have hr:=qM (p:=o9) (s:=s) _ i rfl
   have hlt:=P9 hi hl
   exact⟨rfl,fun _=>⟨by simp only;omega,by have:=hr.2 (by omega);simp only;omega,hwh (.inl hl)⟩,fun h=>by simp at h⟩
  ·split
   ·rename_i hd
    have hdd:wh=false:=hwh (by
     simp only[Bool.or_eq_true,decide_eq_true_eq] at hd
     rcases hd with h|h
     ·exact .inr (.inl h)
     ·exact .inr (.inr (.inl h)))
    cases hq:jX s i with
    | none=>exact⟨rfl,fun h=>by simp at h,fun _=>⟨by simp only;omega,by simp only;omega⟩⟩
    | some ne =>
      obtain⟨n,e⟩:=ne
      have:=BL hi hq
      exact⟨rfl,fun _=>⟨by simp only;omega,by simp only;omega,hdd⟩,fun h=>by simp at h⟩
   ·split
    ·rename_i uJ
     have ht:=DF s i _ (i+1) [] rfl (by omega) (by omega) (by omega) (by simp)
     exact⟨rfl,fun h=>⟨by have:=(ht.1 h).1;simp only[textE];omega,by have:=(ht.1 h).2;simp only[textE];omega,hwh (.inr (.inr (.inr uJ)))⟩,fun h=>ht.2.1 h⟩
    ·exact⟨rfl,fun h=>by simp at h,fun _=>⟨by simp only;omega,by simp only;omega⟩⟩
section
variable {s:ByteArray} {op dn:List T} {i:Nat}
theorem vG (h:i<s.size)(hb:((bt s i).toNat:Int)=32∨((bt s i).toNat:Int)=10):fZ s op dn i=fZ s op dn (i+1):=by
 rw[fZ.eq_def,dif_pos h,if_pos hb]
theorem D9 (h:i<s.size)(hc:((bt s i).toNat:Int)=40):fZ s op dn i=if 12≤op.length then (dW,14,(i:Int)) else if 0<dn.length then (dW,11,(i:Int)) else fZ s (op++[.mk 1 ⟨#[]⟩ 0 [] i]) dn (i+1):=by
 rw[fZ.eq_def,dif_pos h,if_neg (by omega),if_pos hc]
theorem zi (h:i<s.size)(hc:((bt s i).toNat:Int)=41)(hop:op.length=0):fZ s op dn i=(dW,12,(i:Int)):=by
 rw[fZ.eq_def,dif_pos h,if_neg (by omega),if_neg (by omega),if_pos hc]
 have e0:op=[]:=bF hop
 subst e0
 rfl
theorem BM {m:Nat} {t:T} (h:i<s.size)(hc:((bt s i).toNat:Int)=41)(hm:op.length=m+1)(ht:op[m]?=some t):fZ s op dn i=fZ s (sS (op.take m) dn t).1 (sS (op.take m) dn t).2 (i+1):=by
 rw[fZ.eq_def,dif_pos h,if_neg (by omega),if_neg (by omega),if_pos hc,hm,Nat.add_sub_cancel,ht]
theorem Ho (h:i<s.size)(h32:¬((bt s i).toNat:Int)=32)(h10:¬((bt s i).toNat:Int)=10)(zZ:¬((bt s i).toNat:Int)=40)(Oj:¬((bt s i).toNat:Int)=41)(hw:¬(iT s i (decide (0<dn.length))).2.2.1=0) :
 fZ s op dn i=(dW,(iT s i (decide (0<dn.length))).2.2.1,(iT s i (decide (0<dn.length))).2.2.2):=by
 rw[fZ.eq_def,dif_pos h,if_neg (by omega),if_neg zZ,if_neg Oj,if_neg hw]
theorem Ea (h:i<s.size)(h32:¬((bt s i).toNat:Int)=32)(h10:¬((bt s i).toNat:Int)=10)(zZ:¬((bt s i).toNat:Int)=40)(Oj:¬((bt s i).toNat:Int)=41)(hw:(iT s i (decide (0<dn.length))).2.2.1=0) :
 fZ s op dn i=fZ s (sS op dn (iT s i (decide (0<dn.length))).1).1 (sS op dn (iT s i (decide (0<dn.length))).1).2 (iT s i (decide (0<dn.length))).2.1.toNat:=by
 rw[fZ.eq_def,dif_pos h,if_neg (by omega),if_neg zZ,if_neg Oj,if_pos hw,dif_pos ((D8 _ h).2.1 hw).1]
theorem Hq (h:¬i<s.size):fZ s op dn i=if 0<op.length then (dW,(10:Int),(s.size:Int)) else match dn with
 | t::_=>(t,(0:Int),(0:Int))
 | []=>(dW,(10:Int),(s.size:Int)):=by
 rw[fZ.eq_def,dif_neg h]
 all_goals (cases dn <;> rfl)
end
inductive T.Good:T→Prop
 | mk (k:Int)(s:ByteArray)(n:Int)(l:List T)(a:Int)(h1:-9223372036854775808≤n)(h2:n≤9223372036854775807)(h3:s.size≤600)(h4:k=4→s.size≤40)(hl:l.length≤600)(hk:∀ e∈l,T.Good e):T.Good (.mk k s n l a)
def T.Open (j:Nat)(t:T):Prop:=(-9223372036854775808≤t.n∧t.n≤9223372036854775807)∧t.s.size≤600∧(t.k=4→t.s.size≤40)∧t.kids.length≤j∧∀ e∈t.kids,T.Good e
theorem T.Open.good {j:Nat} {t:T} (h:t.Open j)(hj:j≤600):t.Good:=by
 obtain⟨k,s,n,l,a⟩:=t
 obtain⟨⟨h1,h2⟩,h3,h4,h5,h6⟩:=h
 exact .mk k s n l a h1 h2 h3 h4 (aS h5 hj) h6
theorem T.Open.more {j j':Nat} {t:T} (h:t.Open j)(hj:j≤j'):t.Open j':=⟨h.1,h.2.1,h.2.2.1,aS h.2.2.2.1 hj,h.2.2.2.2⟩
def lK:T:=.mk 0 ⟨#[]⟩ 0 [] 0
theorem Eo (j:Nat):lK.Open j:=⟨⟨by decide,by decide⟩,by decide,by decide,aX _,fun e he=>by cases he⟩
theorem Ig {wr w6:World} {b1 q g m cap g6 cap6 n1 m1 j i2:Nat} {e:TypeId} {ps qs:List TP} {tk tn ta:Int} {ts:ByteArray} {tl:List T} {A0:Option Addr} {c0:Nat} {x:TP}
 (hown:wr.ownsRow b1 e 5 (.slice (some ⟨g,0,none⟩) m cap) m (ed ps))(hpl:ps.length=m)(hpt:ps[m1]?=some ((.mk tk ts tn tl ta:T),A0,c0))
 (hxk:∀ p∈ps,p.1.Open j∧p.1.kids.length≤p.2.2∧mQ wr (fun k=>b1≤k∧k<wr.heap.size∧k≠g) p.2.1 p.1.kids)(hB:Below wr.heap.size wr w6)
 (hqs:qs.map Prod.fst=tl)(hqk:∀ p∈qs,p.1.kids.length≤p.2.2∧mQ wr (fun k=>b1≤k∧k<wr.heap.size∧k≠g) p.2.1 p.1.kids)
 (hxg:x.1.Good)(hx:x.1.kids.length≤x.2.2∧mQ wr (fun k=>b1≤k∧k<wr.heap.size∧k≠g) x.2.1 x.1.kids)
 (hO6:w6.ownsRow q e 5 (.slice (some ⟨g6,0,none⟩) n1 cap6) n1 (ed qs++TP.cs x))(hq:wr.heap.size≤q)(hn1:n1=tl.length+1)(hn:n1≤600)(hj:j≤i2)(hi2:n1≤i2)(hb1:b1≤wr.heap.size) :
 (w6.setCell ⟨g,m1*5+3,none⟩ (.slice (some ⟨g6,0,none⟩) n1 cap6)).ownsRow b1 e 5 (.slice (some ⟨g,0,none⟩) m cap) m (ed (ps.set m1 ((.mk tk ts tn (tl++[x.1]) ta:T),some ⟨g6,0,none⟩,cap6))) ∧
 ∀ p∈ps.set m1 ((.mk tk ts tn (tl++[x.1]) ta:T),some ⟨g6,0,none⟩,cap6),p.1.Open i2∧p.1.kids.length≤p.2.2∧mQ (w6.setCell ⟨g,m1*5+3,none⟩ (.slice (some ⟨g6,0,none⟩) n1 cap6)) (fun k=>b1≤k∧k<(w6.setCell ⟨g,m1*5+3,none⟩ (.slice (some ⟨g6,0,none⟩) n1 cap6)).heap.size∧k≠g) p.2.1 p.1.kids:=by
 have hs6:=hB.size
 have hs7:(w6.setCell ⟨g,m1*5+3,none⟩ (.slice (some ⟨g6,0,none⟩) n1 cap6)).heap.size=w6.heap.size:=by simp[World.setCell]
 have Sj:g<wr.heap.size:=(hown.lt g rfl).2
 have hlen:(tl++[x.1]).length=n1:=by simp[hn1]
 constructor
 ·have hw:w6.ownsRow b1 e 5 (.slice (some ⟨g,0,none⟩) m cap) m (ed ps):=by
   obtain⟨h1,h2⟩:=hown
   refine⟨h1,?_⟩
   rcases h2 with h2|⟨g',cap',cur,e1,hb,hg,r⟩
   ·exact .inl h2
   ·have hgg:g=g':=by injection e1 with e1;injection e1 with e1;injection e1
    subst hgg
    exact .inr ⟨g,cap',cur,e1,hb,(hB.block g Sj).trans hg,r⟩
  have:=IK hw hpt (tl++[x.1]) (some ⟨g6,0,none⟩) cap6
  rw[hlen] at this
  exact this
 ·have hsame:∀ k,k<wr.heap.size→k≠g→(w6.setCell ⟨g,m1*5+3,none⟩ (.slice (some ⟨g6,0,none⟩) n1 cap6)).heap[k]?=wr.heap[k]?:=fun k h1 h2=>(aI w6 ⟨g,m1*5+3,none⟩ _ k h2).trans (hB.block k h1)
  have keep:∀ {A:Option Addr} {l:List T},mQ wr (fun k=>b1≤k∧k<wr.heap.size∧k≠g) A l→mQ (w6.setCell ⟨g,m1*5+3,none⟩ (.slice (some ⟨g6,0,none⟩) n1 cap6)) (fun k=>b1≤k∧k<(w6.setCell ⟨g,m1*5+3,none⟩ (.slice (some ⟨g6,0,none⟩) n1 cap6)).heap.size∧k≠g) A l:=fun h =>
   (h.kept fun k hk=>hsame k hk.2.1 hk.2.2).mono fun k hk=>⟨hk.1,by rw[hs7];have:=hk.2.1;omega,hk.2.2⟩
  intro p hp
  rcases List.mem_or_eq_of_mem_set hp with hp|rfl
  ·obtain⟨q1,q2,q3⟩:=hxk p hp
   exact⟨q1.more hj,q2,keep q3⟩
  ·obtain⟨⟨o1,o2,o3,o4,o5⟩,_,_⟩:=hxk _ (aN hpt)
   have hql:(qs++[x]).length=n1:=by
    have e1:(qs.map Prod.fst).length=qs.length:=bM _
    rw[hqs] at e1
    rw[aZ,←e1,hn1]
    rfl
   have hO7:w6.ownsRow q e 5 (.slice (some ⟨g6,0,none⟩) n1 cap6) (qs++[x]).length (ed (qs++[x])):=by rw[hql,jv,fB];exact hO6
   obtain⟨A,c,hv,hc,hX⟩:=rP hO7 (by omega) (S:=fun k=>b1≤k∧k<w6.heap.size∧k≠g) (fun k h1 h2=>⟨by omega,h2,by omega⟩) (fun y hy=>by
    rcases cu.1 hy with hy|hy
    ·exact⟨(hqk y hy).1,((hqk y hy).2.kept fun k hk=>hB.block k hk.2.1).mono fun k hk=>⟨hk.1,by have:=hk.2.1;omega,hk.2.2⟩⟩
    ·obtain rfl:y=x:=by simpa using hy
     exact⟨hx.1,(hx.2.kept fun k hk=>hB.block k hk.2.1).mono fun k hk=>⟨hk.1,by have:=hk.2.1;omega,hk.2.2⟩⟩)
   have hmap:(qs++[x]).map Prod.fst=tl++[x.1]:=by rw[List.map_append,hqs];rfl
   rw[hmap] at hv hc hX
   injection hv with hA _ hcc
   subst hA hcc
   refine⟨⟨o1,o2,o3,?_,fun y hy=>?_⟩,hc,(hX.kept fun k hk=>aI w6 ⟨g,m1*5+3,none⟩ _ k hk.2.2).mono fun k hk=>⟨hk.1,by rw[hs7];exact hk.2.1,hk.2.2⟩⟩
   ·show (tl++[x.1]).length≤i2
    omega
   ·rcases cu.1 hy with hy|hy
    ·exact o5 y hy
    ·obtain rfl:y=x.1:=by simpa using hy
     exact hxg
inductive E.Fine:E→Prop
 | mk (k:Int)(s:ByteArray)(n:Int)(l:List E)(h1:-9223372036854775808≤n)(h2:n≤9223372036854775807)(h3:s.size≤1048576)(h:∀ e∈l,E.Fine e):E.Fine (.mk k s n l)
inductive E.Texts:E→Prop
 | mk (k:Int)(s:ByteArray)(n:Int)(l:List E)(h:k=3→s.size≤40)(hk:∀ e∈l,E.Texts e):E.Texts (.mk k s n l)
structure Aside (X:Nat→Prop)(w w':World):Prop where
 os:w'.os=w.os
 tape:w'.tape=w.tape
 output:w'.output=w.output
 size:w.heap.size≤w'.heap.size
 block:∀ b,b<w.heap.size→¬X b→w'.heap[b]?=w.heap[b]?
section
variable {X:Nat→Prop} {w w' w'':World}
theorem Aside.of_below (h:Below w.heap.size w w'):Aside X w w':=⟨h.os,h.tape,h.output,h.size,fun b hb _=>h.block b hb⟩
theorem Aside.trans (h:Aside X w w')(h':Aside X w' w''):Aside X w w'' :=
 ⟨h'.os.trans h.os,h'.tape.trans h.tape,h'.output.trans h.output,aS h.size h'.size,fun b hb hx=>(h'.block b (aK hb h.size) hx).trans (h.block b hb hx)⟩
theorem Aside.mono {Y:Nat→Prop} (h:Aside X w w')(hXY:∀ b,b<w.heap.size→X b→Y b):Aside Y w w':=⟨h.os,h.tape,h.output,h.size,fun b hb hy=>h.block b hb fun hx=>hy (hXY b hb hx)⟩
theorem Aside.alloc (h:Aside X w w')(o:Obj):Aside X w (w'.alloc o):=h.trans (.of_below ((aG _ _).alloc (aF _) o))
theorem Aside.drew (h:Aside X w w'):Aside X w w'.drew:=h.trans (.of_below (aG _ _).drew)
theorem Aside.setCell (h:Aside X w w')(p:Addr)(u:Value)(hp:p.block<w.heap.size→X p.block):Aside X w (w'.setCell p u):=by
 have hb:=(aG 0 w').setCell (p:=p) (aX _) u
 exact⟨hb.os.trans h.os,hb.tape.trans h.tape,hb.output.trans h.output,aS h.size hb.size,fun b hlt hx=>(aI w' p u b (fun e=>hx (e ▸ hp (e ▸ hlt)))).trans (h.block b hlt hx)⟩
theorem Aside.grown {row:Option Nat} (h:Aside X w w')(hg:w'.grownBy w'' row)(hr:∀ b,row=some b→b<w.heap.size→X b):Aside X w w'':=by
 have hb:=(aG 0 w').grown hg (aX _) (fun _ _=>aX _)
 exact⟨hb.os.trans h.os,hb.tape.trans h.tape,hb.output.trans h.output,aS h.size hb.size,fun b hlt hx=>(hg.block b (aK hlt h.size) (fun e=>hx (hr b e.symm hlt))).trans (h.block b hlt hx)⟩
theorem Aside.below {B:Nat} (h:Aside X w w')(hB:B≤w.heap.size)(hX:∀ b,X b→B≤b):Below B w w':=⟨h.os,h.tape,h.output,h.size,fun b hb=>h.block b (by omega) fun hx=>by have:=hX b hx;omega⟩
end
def x8 (t:TypeId)(w w':World)(base gO o:Nat)(cur:Array Value)(A:Option Addr)(n:Nat)(qs:List TP)(x:TP):Prop:=∃ g' cap',
 w'.ownsRow base 71 5 (.slice (some ⟨g',0,none⟩) (n+1) cap') (n+1) (ed (qs++[x])) ∧
 w'.heap[gO]?=some (.cells (cur.setIfInBounds o (.slice (some ⟨g',0,none⟩) (n+1) cap')) t (0,0)) ∧
 Aside (fun b=>b=gO∨∃ ad,A=some ad∧ad.block=b) w w' ∧
 ((∃ ad,A=some ad∧ad.block=g')∨w.heap.size≤g')
abbrev VO:=x8 71
theorem zJ {w:World} {base:Nat} {e:TypeId} {g cap n:Nat} {qs:List TP} {z:List Value} {x0 x1 x2 x3 x4:Value} (h:w.ownsRow base e 5 (.slice (some ⟨g,0,none⟩) (n+1) cap) (n+1) (ed qs++z))(hn:qs.length=n) :
 (((((w.setCell ⟨g,n*5,none⟩ x0).setCell ⟨g,n*5+1,none⟩ x1).setCell ⟨g,n*5+2,none⟩ x2).setCell ⟨g,n*5+3,none⟩ x3).setCell ⟨g,n*5+4,none⟩ x4).ownsRow base e 5 (.slice (some ⟨g,0,none⟩) (n+1) cap) (n+1) (ed qs++[x0,x1,x2,x3,x4]):=by
 obtain⟨h1,h2⟩:=h
 have hfl:=jg qs
 have hz:z.length=5:=by rw[aZ] at h1;omega
 refine⟨by rw[aZ,hfl];simp;omega,.inr ?_⟩
 rcases h2 with⟨h',_⟩|⟨g',cap',cur,h',hb,hg,hnc,hcm,hcs,htake⟩
 ·simp at h'
 ·simp only[Value.slice.injEq,Option.some.injEq,Addr.mk.injEq,and_true,true_and] at h'
  obtain⟨rfl,rfl⟩:=h'
  refine⟨g,cap,((((cur.setIfInBounds (n*5) x0).setIfInBounds (n*5+1) x1).setIfInBounds (n*5+2) x2).setIfInBounds (n*5+3) x3).setIfInBounds (n*5+4) x4,rfl,hb,JI.FY (JI.FY (JI.FY (JI.FY (JI.FY hg _ _) _ _) _ _) _ _) _ _,hnc,hcm,by simpa using hcs,?_⟩
  have hlt:(n+1)*5≤cur.size:=by rw[hcs];omega
  apply List.ext_getElem?
  intro i
  have hti:=congrArg (fun l=>l[i]?) htake
  rcases Nat.lt_or_ge i ((n+1)*5) with hi|hi
  ·rw[List.getElem?_take_of_lt hi] at hti ⊢
   rw[Array.getElem?_toList] at hti ⊢
   rcases Nat.lt_or_ge i (n*5) with hi2|hi2
   ·rw[List.getElem?_append_left (by omega)] at hti ⊢
    rw[←hti]
    simp[Array.getElem?_setIfInBounds,show ¬n*5=i by omega,show ¬n*5+1=i by omega,show ¬n*5+2=i by omega,show ¬n*5+3=i by omega,show ¬n*5+4=i by omega]
   ·obtain⟨r,rfl⟩:∃ r,i=n*5+r:=⟨i-n*5,by omega⟩
    have hr:r<5:=by omega
    rw[bK (by omega),show n*5+r-(ed qs).length=r by omega]
    have hsz:n*5+5≤cur.size:=by omega
    match r,hr with
    | 0,_=>simp[Array.getElem?_setIfInBounds,show n*5<cur.size by omega]
    | 1,_=>simp[Array.getElem?_setIfInBounds,show n*5+1<cur.size by omega]
    | 2,_=>simp[Array.getElem?_setIfInBounds,show n*5+2<cur.size by omega]
    | 3,_=>simp[Array.getElem?_setIfInBounds,show n*5+3<cur.size by omega]
    | 4,_=>simp[Array.getElem?_setIfInBounds,show n*5+4<cur.size by omega]
  ·rw[List.getElem?_take_eq_none hi,List.getElem?_eq_none (by rw[aZ,hfl];simp;omega)]
theorem wS {w w':World} {base n c g:Nat} {e:TypeId} {z:Nat} {xs:List Value} (h:w.ownsRow base e z (.slice (some ⟨g,0,none⟩) n c) n xs)(hb:w'.heap[g]?=w.heap[g]?):w'.ownsRow base e z (.slice (some ⟨g,0,none⟩) n c) n xs:=by
 refine⟨h.1,?_⟩
 rcases h.2 with hn|⟨g',cap,cur,e1,hg,hgg,rest⟩
 ·exact .inl hn
 ·have hgg':g=g':=by injection e1 with e1;injection e1 with e1;injection e1
  subst hgg'
  exact .inr ⟨g,cap,cur,e1,hg,by rw[hb];exact hgg,rest⟩
theorem Dj {w:World} {base n:Nat} {e:TypeId} {v:Value} {qs:List TP} (h:w.ownsRow base e 5 v n (ed qs)):qs.length=n:=by
 have:=h.1
 rw[jg] at this
 omega
section
variable {t:TypeId} {w w5:World} {base gO o g5 cap5 n:Nat} {cur:Array Value} {A:Option Addr} {qs:List TP} {x:TP}
theorem Jp (hA:Aside (fun b=>∃ ad,A=some ad∧ad.block=b) w w5)(hg:(∃ ad,A=some ad∧ad.block=g5)∨w.heap.size≤g5)(hown:w5.ownsRow base 71 5 (.slice (some ⟨g5,0,none⟩) (n+1) cap5) (n+1) (ed qs++TP.cs x))
 (ZW:w5.heap[gO]?=some (.cells cur t (0,0)))(hne:g5≠gO):x8 t w (w5.setCell ⟨gO,o,none⟩ (.slice (some ⟨g5,0,none⟩) (n+1) cap5)) base gO o cur A n qs x:=by
 refine⟨g5,cap5,?_,JI.FY ZW _ _,(hA.mono fun b _ h=>.inr h).setCell _ _ (fun _=>.inl rfl),hg⟩
 rw[jv,fB]
 exact wS hown (aI w5 ⟨gO,o,none⟩ _ g5 hne)
theorem vU {z:List Value} (hA:Aside (fun b=>∃ ad,A=some ad∧ad.block=b) w w5)(hg:(∃ ad,A=some ad∧ad.block=g5)∨w.heap.size≤g5)(hown:w5.ownsRow base 71 5 (.slice (some ⟨g5,0,none⟩) (n+1) cap5) (n+1) (ed qs++z))
 (ZW:w5.heap[gO]?=some (.cells cur t (0,0)))(hne:g5≠gO)(hq:qs.length=n) :
 x8 t w ((((((w5.setCell ⟨gO,o,none⟩ (.slice (some ⟨g5,0,none⟩) (n+1) cap5)).setCell ⟨g5,n*5,none⟩ (.int .i64 x.1.k)).setCell ⟨g5,n*5+1,none⟩ (.string x.1.s)).setCell ⟨g5,n*5+2,none⟩ (.int .i64 x.1.n)).setCell ⟨g5,n*5+3,none⟩ (.slice x.2.1 x.1.kids.length x.2.2)).setCell ⟨g5,n*5+4,none⟩ (.int .i64 x.1.at_)) base gO o cur A n qs x:=by
 have hx:g5<w.heap.size→(fun b=>b=gO∨∃ ad,A=some ad∧ad.block=b) g5:=fun h=>by
  rcases hg with h'|h'
  ·exact .inr h'
  ·omega
 refine⟨g5,cap5,?_,?_,((((((hA.mono fun b _ h=>.inr h).setCell _ _ (fun _=>.inl rfl)).setCell _ _ hx).setCell _ _ hx).setCell _ _ hx).setCell _ _ hx).setCell _ _ hx,hg⟩
 ·rw[jv,fB]
  exact zJ (wS hown (aI w5 ⟨gO,o,none⟩ _ g5 hne)) hq
 ·exact (aI _ ⟨g5,n*5+4,none⟩ _ gO (Ne.symm hne)).trans ((aI _ ⟨g5,n*5+3,none⟩ _ gO (Ne.symm hne)).trans ((aI _ ⟨g5,n*5+2,none⟩ _ gO (Ne.symm hne)).trans ((aI _ ⟨g5,n*5+1,none⟩ _ gO (Ne.symm hne)).trans ((aI _ ⟨g5,n*5,none⟩ _ gO (Ne.symm hne)).trans (JI.FY ZW _ _)))))
theorem BR {z:List Value} (hA:Aside (fun b=>∃ ad,A=some ad∧ad.block=b) w w5)(hg:(∃ ad,A=some ad∧ad.block=g5)∨w.heap.size≤g5)(hown:w5.ownsRow base 71 5 (.slice (some ⟨g5,0,none⟩) (n+1) cap5) (n+1) (ed qs++z))
 (ZW:w5.heap[gO]?=some (.cells cur t (0,0)))(hne:g5≠gO)(hq:qs.length=n) :
 x8 t w ((((((w5.setCell ⟨g5,n*5,none⟩ (.int .i64 x.1.k)).setCell ⟨g5,n*5+1,none⟩ (.string x.1.s)).setCell ⟨g5,n*5+2,none⟩ (.int .i64 x.1.n)).setCell ⟨g5,n*5+3,none⟩ (.slice x.2.1 x.1.kids.length x.2.2)).setCell ⟨g5,n*5+4,none⟩ (.int .i64 x.1.at_)).setCell ⟨gO,o,none⟩ (.slice (some ⟨g5,0,none⟩) (n+1) cap5)) base gO o cur A n qs x:=by
 have hx:g5<w.heap.size→(fun b=>b=gO∨∃ ad,A=some ad∧ad.block=b) g5:=fun h=>by
  rcases hg with h'|h'
  ·exact .inr h'
  ·omega
 refine⟨g5,cap5,?_,JI.FY ?_ _ _,((((((hA.mono fun b _ h=>.inr h).setCell _ _ hx).setCell _ _ hx).setCell _ _ hx).setCell _ _ hx).setCell _ _ hx).setCell _ _ (fun _=>.inl rfl),hg⟩
 ·rw[jv,fB]
  exact wS (zJ hown hq) (aI _ ⟨gO,o,none⟩ _ g5 hne)
 ·exact (aI _ ⟨g5,n*5+4,none⟩ _ gO (Ne.symm hne)).trans ((aI _ ⟨g5,n*5+3,none⟩ _ gO (Ne.symm hne)).trans ((aI _ ⟨g5,n*5+2,none⟩ _ gO (Ne.symm hne)).trans ((aI _ ⟨g5,n*5+1,none⟩ _ gO (Ne.symm hne)).trans ((aI _ ⟨g5,n*5,none⟩ _ gO (Ne.symm hne)).trans ZW))))
end
end Go.Proofs.YtjhkihkiebnpaaaGreatDoor
