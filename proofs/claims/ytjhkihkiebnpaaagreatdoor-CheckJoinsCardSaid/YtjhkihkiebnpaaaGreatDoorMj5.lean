/-
  Package plan's reader: agg.
-/
import Derived.Test.YtjhkihkiebnpaaaGreatDoorMj0
import Derived.Test.YtjhkihkiebnpaaaGreatDoorMj20
import Derived.Test.YtjhkihkiebnpaaaGreatDoorMj3
import Derived.Test.YtjhkihkiebnpaaaGreatDoorMj1
import Derived.Lib.ParseIntBCases
import Derived.Lib.ItoaNum
import Derived.Deep.AppendLies
import Derived.IntWalk
import Derived.Deep.DeepCutAuto
import Derived.Deep.CutBlock
import Derived.Deep.RegionLaw
import Derived.Test.YtjhkihkiebnpaaaGreatDoorMj4
import Derived.OwnWalk
import Derived.Test.YtjhkihkiebnpaaaGreatDoorMj2
set_option linter.unusedVariables false
set_option linter.unusedSimpArgs false
set_option maxRecDepth 100000
set_option maxHeartbeats 40000000
namespace Go.Proofs.YtjhkihkiebnpaaaGreatDoor
open Go.RowKit
theorem J9:(Tryz.prog.info? 46).map (fun i=>(i.zero,i.size,i.bytes))=some (some (.agg #[.string ByteArray.empty,.string ByteArray.empty,.string ByteArray.empty]),3,48):=by kernel_rfl
theorem fP {fn:Func} {p:Tmp} (h:fn.results=#[.cell p 46]) {tmps:Array Value} {w:World} {g:Nat} {x0 x1 x2:Value} {t:TypeId}
 (hp:tmps.getD p undef=.pointer (some ⟨g,0,none⟩))(hg:w.heap[g]?=some (.cells #[x0,x1,x2] t (0,0))):(results fn tmps).run Tryz.prog w=.ok (.agg #[x0,x1,x2]) w:=by
 have hp':tmps[p]?.getD undef=.pointer (some ⟨g,0,none⟩):=by simpa using hp
 have hl:=run_loadVar_row (P:=Tryz.prog) w g t 46 #[x0,x1,x2] (0,0) _ hg Tryz.underlying46 rfl (by show _=some 3;kernel_rfl)
 simp[results,h,hp',asAddr,hl]
theorem fA.at {w:World} {B:Nat} {A:Option Addr} {l:List T} (h:fA w B A l)(hB:B≤w.heap.size) {i:Nat} {x:T} (hx:l[i]?=some x) :
 ∃ b o A' c',A=some ⟨b,o,none⟩∧b<B∧w.cell? ⟨b,o+i*5,none⟩=some (.int .i64 x.k)∧w.cell? ⟨b,o+i*5+1,none⟩=some (.string x.s) ∧
   w.cell? ⟨b,o+i*5+2,none⟩=some (.int .i64 x.n)∧w.cell? ⟨b,o+i*5+3,none⟩=some (.slice A' x.kids.length c')∧w.cell? ⟨b,o+i*5+4,none⟩=some (.int .i64 x.at_)∧x.kids.length≤c'∧fA w B A' x.kids:=by
 cases h with
 | nil A=>simp at hx
 | mk b off l hn hlt A c h hk =>
   obtain⟨h1,h2,h3,h4,h5,h6⟩:=h i x hx
   exact⟨b,off,A i,c i,rfl,hlt,h1,h2,h3,h4,h5,h6,hk i x hx⟩
theorem Only.drew {g:Nat} {w w':World} (h:Only g w w'):Only g w w'.drew:=⟨h.os,h.tape,h.output,h.size,h.block⟩
theorem Only.Am {g:Nat} {w w':World} (h:Only g w.drew w'):Only g w w':=⟨h.os,h.tape,h.output,h.size,h.block⟩
theorem fH {w:World} {g:Nat} {a b c:Value} {t:TypeId} (h:w.heap[g]?=some (.cells #[a,b,c] t (0,0))) :
 (w.cell? ⟨g,0,none⟩=some a∧w.cell? ⟨g,1,none⟩=some b∧w.cell? ⟨g,2,none⟩=some c)∧w.frozen? ⟨g,0,none⟩=false∧w.frozen? ⟨g,1,none⟩=false∧w.frozen? ⟨g,2,none⟩=false:=by
 simp[World.cell?,World.frozen?,h]
theorem Ut {w:World} {g k:Nat} {a b c u:Value} {t:TypeId} (h:w.heap[g]?=some (.cells #[a,b,c] t (0,0))):(w.setCell ⟨g,k,none⟩ u).heap[g]?=some (.cells (#[a,b,c].set! k u) t (0,0)):=by
 show (w.heap.modify g _)[g]?=_
 rw[Array.getElem?_modify]
 simp[h]
def DR (w:World)(p:Nat)(x0 x1 x2:Value):World:=((w.setCell ⟨p,0,none⟩ x0).setCell ⟨p,1,none⟩ x1).setCell ⟨p,2,none⟩ x2
theorem fK {w:World} {p:Nat} {a b c x0 x1 x2:Value} {t:TypeId} (h:w.heap[p]?=some (.cells #[a,b,c] t (0,0))):(DR w p x0 x1 x2).heap[p]?=some (.cells #[x0,x1,x2] t (0,0)) :=
 Ut (k:=2) (Ut (k:=1) (Ut (k:=0) h))
theorem fM {w:World} {p k:Nat} {x0 x1 x2:Value} (h:k≠p):(DR w p x0 x1 x2).heap[k]?=w.heap[k]?:=by
 simp only[DR,World.setCell,Array.getElem?_modify]
 rw[if_neg (by omega),if_neg (by omega),if_neg (by omega)]
theorem NM {w:World} {p:Nat} {x0 x1 x2:Value}:(DR w p x0 x1 x2).heap.size=w.heap.size:=by simp[DR,World.setCell]
theorem wM (l:List UInt8):l=pY∨l=uS∨l=uT∨l=ig∨((l==pY)=false∧(l==uS)=false∧(l==uT)=false∧(l==ig)=false):=by
 by_cases h1:l=pY
 ·exact .inl h1
 by_cases h2:l=uS
 ·exact .inr (.inl h2)
 by_cases h3:l=uT
 ·exact .inr (.inr (.inl h3))
 by_cases h4:l=ig
 ·exact .inr (.inr (.inr (.inl h4)))
 exact .inr (.inr (.inr (.inr ⟨beq_eq_false_iff_ne.2 h1,beq_eq_false_iff_ne.2 h2,beq_eq_false_iff_ne.2 h3,beq_eq_false_iff_ne.2 h4⟩)))
theorem Uu (t:T)(A:Option Addr)(c:Nat)(g:Nat)(st:jL)(w:World)(h:sU w g st)(hA:fA w g A t.kids)(hn:t.kids.length=2∨t.kids.length=3) :
 Calls Tryz.prog 60 #[.pointer (some ⟨g,0,none⟩),t.val A c] w fun r w' =>
  r=.returned (.agg #[.string (qp t.kids).nm,.string (qp t.kids).fn,.string (qp t.kids).xH])∧Only g w w'∧sU w' g (rV t.kids st):=by
 obtain⟨k,s,n,l,a⟩:=t
 simp only[T.val,T.k,T.s,T.n,T.kids,T.at_] at hA hn ⊢
 have hlt:=h.lt
 obtain⟨x,hx⟩:∃ x,l[0]?=some x:=⟨_,aO (by omega)⟩
 obtain⟨y,hy⟩:∃ y,l[1]?=some y:=⟨_,aO (by omega)⟩
 obtain⟨wa,qx⟩:∃ wa,wa=w.alloc (.cells #[.int .i64 k,.string s,.int .i64 n,.slice A l.length c,.int .i64 a] 71):=⟨_,rfl⟩
 have hba:Below w.heap.size w wa:=by rw[qx];exact (aG _ _).alloc (aF _) _
 have hsa:wa.heap.size=w.heap.size+1:=by rw[qx];simp
 have hxa:wa.heap[w.heap.size]?=some (.cells #[.int .i64 k,.string s,.int .i64 n,.slice A l.length c,.int .i64 a] 71 (0,0)):=by rw[qx];exact aH w _
 obtain⟨w1,dZ⟩:∃ w1,w1=wa.alloc (.cells #[.string ⟨#[]⟩,.string ⟨#[]⟩,.string ⟨#[]⟩] 46):=⟨_,rfl⟩
 have hb1:Below wa.heap.size wa w1:=by rw[dZ];exact (aG _ _).alloc (aF _) _
 have hs1:w.heap.size+1<w1.heap.size:=by rw[dZ];simp;omega
 have hr1:w1.heap[w.heap.size+1]?=some (.cells #[.string ⟨#[]⟩,.string ⟨#[]⟩,.string ⟨#[]⟩] 46 (0,0)):=by rw[dZ,←hsa];exact aH wa _
 have hx1:w1.heap[w.heap.size]?=some (.cells #[.int .i64 k,.string s,.int .i64 n,.slice A l.length c,.int .i64 a] 71 (0,0)):=(hb1.block _ (by omega)).trans hxa
 have hbw:Below w.heap.size w w1:=hba.trans (hb1.mono (by omega))
 have HW1:=ae (show w1=(w.alloc (.cells #[.int .i64 k,.string s,.int .i64 n,.slice A l.length c,.int .i64 a] 71)).alloc (.cells #[.string ⟨#[]⟩,.string ⟨#[]⟩,.string ⟨#[]⟩] 46) by rw[dZ,qx])
 have Nk:=ae (hA.low (hbw.mono (bV hlt)))
 have HR1:=ae (h.kept hbw)
 have jJ:=ae hx1
 have HT1:=ae hr1
 have HB1:=ae hbw
 clear qx hba hsa hxa dZ hb1 hr1 hx1 hbw h hA wa
 obtain⟨b,o,A1,c1,rfl,hbg,m0,m1,m2,m3,m4,hc1,hK1⟩:=Nk.o.at (by omega) hx
 obtain⟨b',o',A2,c2,e9,NP,p0,p1,p2,p3,p4,hc2,hK2⟩:=Nk.o.at (by omega) hy
 obtain⟨rfl,rfl⟩:b=b'∧o=o':=by injection e9 with e9;injection e9 with e9 e10;exact⟨e9,e10⟩
 rw[Nat.zero_mul,Nat.add_zero] at m0 m1 m2 m3 m4
 rw[Nat.one_mul] at p0 p1 p2 p3 p4
 have Uw:=ae (fun wx (hx:sU wx g st)=>ji x A1 c1 g st wx hx)
 have hV:Hid (qp l=⟨x.s,y.s,if l.length=3 then (l.getD 2 dW).s else ⟨#[]⟩⟩):=ae (by unfold qp;rw[getD_some hx,getD_some hy])
 have hO:Hid (qO l=if l.length=2 then y.s.toList==ig else ((y.s.toList==pY || y.s.toList==uS) || y.s.toList==uT)):=ae (by unfold qO;rw[getD_some hy])
 have hR:Hid (qP l st=if qO l then jl x st else yH 12 y.at_ (jl x st)):=ae (by unfold qP;rw[getD_some hx,getD_some hy])
 have hR2:Hid (rV l st=if l.length=3 then jl (l.getD 2 dW) (qP l st) else qP l st):=ae rfl
 have HP:=ae p1
 obtain⟨⟨k0,k1,k2,k3,k4⟩,_,_,_,_,_⟩:=dN jJ.o
 generalize qp l=V at *
 generalize rV l st=R2 at *
 generalize qP l st=R1 at *
 generalize qO l=ok at *
 generalize jl x st=st1 at *
 obtain⟨xk,xs,xn,xl,xa⟩:=x
 obtain⟨yk,ys,yn,yl,ya⟩:=y
 simp only[T.val,T.k,T.s,T.n,T.kids,T.at_] at m0 m1 m2 m3 m4 p0 p1 p2 p3 p4 Uw hV hO hR HP
 clear e9 NP hc1 hc2 hK1 hK2
 generalize xl.length=xm at *
 generalize yl.length=ym at *
 have hx':=ae hx
 have hy':=ae hy
 clear hx hy
 have Nl:Hid (∀ z,l[2]?=some z→l.getD 2 dW=z):=ae fun z hz=>getD_some hz
 have agD:∃ m,l.length=m:=⟨_,rfl⟩
 generalize hem:l.length=m at *
 have yt:=ae hem
 clear hem agD
 have hm0:0<m:=by omega
 have hm1:1<m:=by omega
 have hm2:(1:Int)<(m:Int):=by omega
 have q1:w.heap.size<w1.heap.size:=by omega
 have q2:w.heap.size≠g:=by omega
 have q3:b<w1.heap.size:=by omega
 have q4:b≠g:=by omega
 go_enter Tryz.func60,Tryz.ntmps60
 go_upto_region 1 with (fail)
 rw[←HW1.o]
 refine wp_region_held_drew (S:=fun w'=>Only g w1 w') (by kernel_rfl) ((Only.refl g w1).drew) (fun hHeld=>?_)
 refine aC (i:=0) (v:=.pointer (some ⟨g,0,none⟩)) rfl (by kernel_rfl) aA (bD ⟨by rfl,fun _ _=>by go_simp⟩) ‹_› ?_
 simp only[ah,ai,Act.put,au,ay,az]
 refine aC (i:=1) (v:=.pointer (some ⟨w.heap.size,3,none⟩)) rfl (by kernel_rfl) aA (bD ⟨by rfl,fun _ _=>by go_simp⟩) ‹_› ?_
 simp only[ah,aj,ai,Act.put,au,ay,az]
 refine aC (i:=2) (v:=.slice (some ⟨b,o,none⟩) m c) rfl (by kernel_rfl) aA (bD ⟨by rfl,fun w1' hSw=>by (have j3:=(hSw.cell (p:=⟨w.heap.size,3,none⟩) q1 q2).trans k3;go_simp)⟩) ‹_› ?_
 simp only[ah,aj,ai,Act.put,au,ay,az]
 refine aC (i:=3) (v:=.pointer (some ⟨b,o,none⟩)) rfl (by kernel_rfl) aA (bD ⟨by rfl,fun _ _=>by go_simp⟩) ‹_› ?_
 simp only[ah,aj,ai,Act.put,au,ay,az]
 refine aC (i:=4) (v:=.agg #[.int .i64 xk,.string xs,.int .i64 xn,.slice A1 xm c1,.int .i64 xa]) rfl (by kernel_rfl) aA (bD ⟨by rfl,fun w1' hSw=>by (have m0':=(hSw.cell (p:=⟨b,o,none⟩) q3 q4).trans m0;have m1':=(hSw.cell (p:=⟨b,o+1,none⟩) q3 q4).trans m1;have m2':=(hSw.cell (p:=⟨b,o+2,none⟩) q3 q4).trans m2;have m3':=(hSw.cell (p:=⟨b,o+3,none⟩) q3 q4).trans m3;have m4':=(hSw.cell (p:=⟨b,o+4,none⟩) q3 q4).trans m4;go_simp)⟩) ‹_› ?_
 simp only[ah,aj,ai,Act.put,au,ay,az]
 refine aC (i:=6) (v:=.pointer (some ⟨w.heap.size,3,none⟩)) rfl (by kernel_rfl) aA (bD ⟨by rfl,fun _ _=>by go_simp⟩) ‹_› ?_
 simp only[ah,aj,ai,Act.put,au,ay,az]
 refine aC (i:=7) (v:=.slice (some ⟨b,o,none⟩) m c) rfl (by kernel_rfl) aA (bD ⟨by rfl,fun w1' hSw=>by (have j3:=(hSw.cell (p:=⟨w.heap.size,3,none⟩) q1 q2).trans k3;go_simp)⟩) ‹_› ?_
 simp only[ah,aj,ai,Act.put,au,ay,az]
 refine aC (i:=8) (v:=.pointer (some ⟨b,o+5,none⟩)) rfl (by kernel_rfl) aA (bD ⟨by rfl,fun _ _=>by go_simp⟩) ‹_› ?_
 simp only[ah,aj,ai,Act.put,au,ay,az]
 refine aC (i:=9) (v:=.pointer (some ⟨b,o+5+1,none⟩)) rfl (by kernel_rfl) aA (bD ⟨by rfl,fun _ _=>by go_simp⟩) ‹_› ?_
 simp only[ah,aj,ai,Act.put,au,ay,az]
 refine aC (i:=10) (v:=.string ys) rfl (by kernel_rfl) aA (bD ⟨by rfl,fun w1' hSw=>by (have p1':=(hSw.cell (p:=⟨b,o+5+1,none⟩) q3 q4).trans p1;go_simp)⟩) ‹_› ?_
 simp only[ah,aj,ai,Act.put,au,ay,az]
 refine wpAnyH_ready (rs:=[5,12]) (by kernel_rfl) (by simp) ?_
 refine AllReadyH.cons rfl (fun K hK=>?_) (AllReadyH.cons rfl (fun K hK=>?_) AllReadyH.nil)
 ·simp only[ah,aj,ai]
  go_simp
  refine (Uw.o w1.drew (show sU w1.drew g st from HR1.o)).mono ?_
  rintro e w3 ⟨rfl,hod,hr3⟩
  go_wp2_with fail
  have ho3:=hod.Am
  refine hK.o _ _ ho3 (fun hHeld=>?_)
  clear hK K
  refine aC (i:=11) (v:=.agg #[.string xs,.string ys,.string ⟨#[]⟩]) rfl (by kernel_rfl) aA (bD ⟨by rfl,fun _ _=>by go_simp⟩) ‹_› ?_
  simp only[ah,aj,ai,Act.put,au,ay,az]
  refine wpAnyH_ready (rs:=[12]) (by kernel_rfl) (by simp) ?_
  refine AllReadyH.cons rfl (fun K hK=>?_) AllReadyH.nil
  simp only[ah,aj,ai]
  go_simp
  have oU:=ho3.alloc (.cells #[.string ⟨#[]⟩,.string ⟨#[]⟩,.string ⟨#[]⟩] 46)
  refine hK.o _ _ oU (fun hHeld=>?_)
  clear hK K
  refine wpAnyH_ready (rs:=[13]) (by kernel_rfl) (by simp) ?_
  refine AllReadyH.cons rfl (fun K hK=>?_) AllReadyH.nil
  simp only[ah,aj,ai]
  go_simp
  have hSC:=ho3.alloc (.cells #[.string xs,.string ys,.string ⟨#[]⟩] 46)
  refine hK.o _ _ hSC (fun hHeld=>?_)
  clear hK K
  refine wpAnyH_done (by kernel_rfl) ?_ _
  obtain⟨w4,yw⟩:∃ w4,w4=w3.alloc (.cells #[.string xs,.string ys,.string ⟨#[]⟩] 46):=⟨_,rfl⟩
  obtain⟨q,eq⟩:∃ q,q=w3.heap.size:=⟨_,rfl⟩
  skip
  have hq:q<w4.heap.size∧w1.heap.size≤q:=by rw[yw,eq];have:=ho3.size;exact⟨by simp,this⟩
  have hQ:w4.heap[q]?=some (.cells #[.string xs,.string ys,.string ⟨#[]⟩] 46 (0,0)):=by rw[yw,eq];exact aH w3 _
  have hO4:Only g w1 w4:=by rw[yw];exact hSC
  have XC:sU w4 g st1:=by rw[yw];exact hr3.kept ((aG _ _).alloc (aF _) _)
  rw[←yw,←eq]
  have HQ:=ae hQ
  have mP:=ae hO4
  have HR4:=ae XC
  have hq1:=hq.1
  have hq2:=hq.2
  have hs4:=hO4.size
  have uz:=ae ((hO4.block w.heap.size q1 q2).trans jJ.o)
  have HT4:=ae ((hO4.block (w.heap.size+1) hs1 (by omega)).trans HT1.o)
  have zX:=ae ((hO4.cell (p:=⟨b,o+5+4,none⟩) q3 q4).trans p4)
  clear hQ hO4 XC hq yw eq k0 k1 k2 k3 k4 m0 m1 m2 m3 m4 p0 p1 p2 p3 p4 Uw HW1 HP
  have p4:=zX.o
  obtain⟨⟨k0,k1,k2,k3,k4⟩,_,_,_,_,_⟩:=dN uz.o
  obtain⟨⟨a0,a1,a2⟩,f0,f1,f2⟩:=fH HQ.o
  obtain⟨⟨t0,t1,t2⟩,g0,g1,g2⟩:=fH HT4.o
  rcases hn with rfl|rfl
  ·rcases wM ys.toList with h|h|h|h|⟨e1,e2,e3,e4⟩
   ·have hok:ok=false:=by rw[hO.o,if_pos rfl,h];rfl
    simp only[pY] at h
    go_wp2_with fail
    refine (ik g st1 12 ya w4 HR4.o).mono ?_
    rintro e w5 ⟨rfl,iJ,oI⟩
    have jq:=ae iJ
    have wU:=ae oI
    have hs5:=iJ.size
    have uC:=ae ((iJ.block w.heap.size (by omega) q2).trans uz.o)
    have uD:=ae ((iJ.block (w.heap.size+1) (by omega) (by omega)).trans HT4.o)
    have wV:=ae ((iJ.block q hq1 (by omega)).trans HQ.o)
    clear iJ oI a0 a1 a2 f0 f1 f2 t0 t1 t2 g0 g1 g2 k0 k1 k2 k3 k4 p4
    obtain⟨⟨k0,k1,k2,k3,k4⟩,_,_,_,_,_⟩:=dN uC.o
    obtain⟨⟨a0,a1,a2⟩,f0,f1,f2⟩:=fH wV.o
    obtain⟨⟨t0,t1,t2⟩,g0,g1,g2⟩:=fH uD.o
    go_wp2_with fail
    refine aJ (fP rfl rfl (fK uD.o)) rfl ?_
    refine⟨by rw[hV.o];rfl,((((((dU HB1.o).trans mP.o).trans jq.o).dQ (p:=⟨w.heap.size+1,0,none⟩) (aW _) _).dQ (p:=⟨w.heap.size+1,1,none⟩) (aW _) _).dQ (p:=⟨w.heap.size+1,2,none⟩) (aW _) _),?_⟩
    rw[hR2.o,hR.o,hok]
    exact (fM (by omega)).trans wU.o
   ·have hok:ok=false:=by rw[hO.o,if_pos rfl,h];rfl
    simp only[uS] at h
    go_wp2_with fail
    refine (ik g st1 12 ya w4 HR4.o).mono ?_
    rintro e w5 ⟨rfl,iJ,oI⟩
    have jq:=ae iJ
    have wU:=ae oI
    have hs5:=iJ.size
    have uC:=ae ((iJ.block w.heap.size (by omega) q2).trans uz.o)
    have uD:=ae ((iJ.block (w.heap.size+1) (by omega) (by omega)).trans HT4.o)
    have wV:=ae ((iJ.block q hq1 (by omega)).trans HQ.o)
    clear iJ oI a0 a1 a2 f0 f1 f2 t0 t1 t2 g0 g1 g2 k0 k1 k2 k3 k4 p4
    obtain⟨⟨k0,k1,k2,k3,k4⟩,_,_,_,_,_⟩:=dN uC.o
    obtain⟨⟨a0,a1,a2⟩,f0,f1,f2⟩:=fH wV.o
    obtain⟨⟨t0,t1,t2⟩,g0,g1,g2⟩:=fH uD.o
    go_wp2_with fail
    refine aJ (fP rfl rfl (fK uD.o)) rfl ?_
    refine⟨by rw[hV.o];rfl,((((((dU HB1.o).trans mP.o).trans jq.o).dQ (p:=⟨w.heap.size+1,0,none⟩) (aW _) _).dQ (p:=⟨w.heap.size+1,1,none⟩) (aW _) _).dQ (p:=⟨w.heap.size+1,2,none⟩) (aW _) _),?_⟩
    rw[hR2.o,hR.o,hok]
    exact (fM (by omega)).trans wU.o
   ·have hok:ok=false:=by rw[hO.o,if_pos rfl,h];rfl
    simp only[uT] at h
    go_wp2_with fail
    refine (ik g st1 12 ya w4 HR4.o).mono ?_
    rintro e w5 ⟨rfl,iJ,oI⟩
    have jq:=ae iJ
    have wU:=ae oI
    have hs5:=iJ.size
    have uC:=ae ((iJ.block w.heap.size (by omega) q2).trans uz.o)
    have uD:=ae ((iJ.block (w.heap.size+1) (by omega) (by omega)).trans HT4.o)
    have wV:=ae ((iJ.block q hq1 (by omega)).trans HQ.o)
    clear iJ oI a0 a1 a2 f0 f1 f2 t0 t1 t2 g0 g1 g2 k0 k1 k2 k3 k4 p4
    obtain⟨⟨k0,k1,k2,k3,k4⟩,_,_,_,_,_⟩:=dN uC.o
    obtain⟨⟨a0,a1,a2⟩,f0,f1,f2⟩:=fH wV.o
    obtain⟨⟨t0,t1,t2⟩,g0,g1,g2⟩:=fH uD.o
    go_wp2_with fail
    refine aJ (fP rfl rfl (fK uD.o)) rfl ?_
    refine⟨by rw[hV.o];rfl,((((((dU HB1.o).trans mP.o).trans jq.o).dQ (p:=⟨w.heap.size+1,0,none⟩) (aW _) _).dQ (p:=⟨w.heap.size+1,1,none⟩) (aW _) _).dQ (p:=⟨w.heap.size+1,2,none⟩) (aW _) _),?_⟩
    rw[hR2.o,hR.o,hok]
    exact (fM (by omega)).trans wU.o
   ·have hok:ok=true:=by rw[hO.o,if_pos rfl,h];rfl
    simp only[ig] at h
    go_wp2_with fail
    refine aJ (fP rfl rfl (fK HT4.o)) rfl ?_
    refine⟨by rw[hV.o];rfl,(((((dU HB1.o).trans mP.o).dQ (p:=⟨w.heap.size+1,0,none⟩) (aW _) _).dQ (p:=⟨w.heap.size+1,1,none⟩) (aW _) _).dQ (p:=⟨w.heap.size+1,2,none⟩) (aW _) _),?_⟩
    rw[hR2.o,hR.o,hok]
    exact (fM (by omega)).trans HR4.o
   ·have hok:ok=false:=by rw[hO.o,if_pos rfl,e4]
    simp only[pY,uS,uT,ig] at e1 e2 e3 e4
    go_wp2_with fail
    refine (ik g st1 12 ya w4 HR4.o).mono ?_
    rintro e w5 ⟨rfl,iJ,oI⟩
    have jq:=ae iJ
    have wU:=ae oI
    have hs5:=iJ.size
    have uC:=ae ((iJ.block w.heap.size (by omega) q2).trans uz.o)
    have uD:=ae ((iJ.block (w.heap.size+1) (by omega) (by omega)).trans HT4.o)
    have wV:=ae ((iJ.block q hq1 (by omega)).trans HQ.o)
    clear iJ oI a0 a1 a2 f0 f1 f2 t0 t1 t2 g0 g1 g2 k0 k1 k2 k3 k4 p4
    obtain⟨⟨k0,k1,k2,k3,k4⟩,_,_,_,_,_⟩:=dN uC.o
    obtain⟨⟨a0,a1,a2⟩,f0,f1,f2⟩:=fH wV.o
    obtain⟨⟨t0,t1,t2⟩,g0,g1,g2⟩:=fH uD.o
    go_wp2_with fail
    refine aJ (fP rfl rfl (fK uD.o)) rfl ?_
    refine⟨by rw[hV.o];rfl,((((((dU HB1.o).trans mP.o).trans jq.o).dQ (p:=⟨w.heap.size+1,0,none⟩) (aW _) _).dQ (p:=⟨w.heap.size+1,1,none⟩) (aW _) _).dQ (p:=⟨w.heap.size+1,2,none⟩) (aW _) _),?_⟩
    rw[hR2.o,hR.o,hok]
    exact (fM (by omega)).trans wU.o
  ·obtain⟨z,hz⟩:∃ z,l[2]?=some z:=⟨_,aO (by rw[yt.o];omega)⟩
   obtain⟨b',o',A3,c3,e9,NP,z0,z1,z2,z3,z4,hc3,hK3⟩:=Nk.o.at (by omega) hz
   obtain⟨rfl,rfl⟩:b=b'∧o=o':=by injection e9 with e9;injection e9 with e9 e10;exact⟨e9,e10⟩
   have hzg:=getD_some hz
   have hV':V=⟨xs,ys,z.s⟩:=by rw[hV.o,if_pos rfl,hzg];rfl
   clear hV
   have hV:=ae hV'
   clear hV' e9 NP hc3 hK3 hz
   obtain⟨zk,zs,zn,zl,za⟩:=z
   simp only[T.k,T.s,T.n,T.kids,T.at_] at z0 z1 z2 z3 z4 hV
   rcases wM ys.toList with h|h|h|h|⟨e1,e2,e3,e4⟩
   ·have hok:ok=true:=by rw[hO.o,if_neg (by decide),h];rfl
    simp only[pY] at h
    have hZ:=fun (p:Addr)(h1:p.block<w1.heap.size)(h2:p.block≠g)=>(mP.o).cell (p:=p) h1 h2
    have z0':=(hZ ⟨b,o+2*5,none⟩ q3 q4).trans z0
    have z1':=(hZ ⟨b,o+2*5+1,none⟩ q3 q4).trans z1
    have z2':=(hZ ⟨b,o+2*5+2,none⟩ q3 q4).trans z2
    have z3':=(hZ ⟨b,o+2*5+3,none⟩ q3 q4).trans z3
    have XD:=(hZ ⟨b,o+2*5+4,none⟩ q3 q4).trans z4
    clear hZ z0 z1 z2 z3 z4
    have yN:=ae (ji (.mk zk zs zn zl za) A3 c3 g _ w4 HR4.o)
    simp only[T.val,T.k,T.s,T.n,T.kids,T.at_] at yN
    generalize zl.length=zm at *
    go_wp2_with fail
    refine (yN.o).mono ?_
    rintro e w6 ⟨rfl,nH,qK⟩
    have qR:=ae nH
    have yO:=ae qK
    have hs6:=nH.size
    have yP:=ae ((nH.block (w.heap.size+1) (by omega) (by omega)).trans HT4.o)
    have CV:=ae ((nH.block q (by omega) (by omega)).trans HQ.o)
    clear nH qK a0 a1 a2 f0 f1 f2 t0 t1 t2 g0 g1 g2 k0 k1 k2 k3 k4
    obtain⟨⟨a0,a1,a2⟩,f0,f1,f2⟩:=fH CV.o
    obtain⟨⟨t0,t1,t2⟩,g0,g1,g2⟩:=fH yP.o
    go_wp2_with fail
    refine aJ (fP rfl rfl (fK ((aI _ ⟨q,2,none⟩ _ _ (by show w.heap.size+1≠q;omega)).trans yP.o))) rfl ?_
    refine⟨by rw[hV.o],(((((((dU HB1.o).trans mP.o).trans qR.o).dQ (p:=⟨q,2,none⟩) (by show w.heap.size≤q;omega) (.string zs)).dQ (p:=⟨w.heap.size+1,0,none⟩) (aW _) _).dQ (p:=⟨w.heap.size+1,1,none⟩) (aW _) _).dQ (p:=⟨w.heap.size+1,2,none⟩) (aW _) _),?_⟩
    rw[hR2.o]
    first|rw[if_pos rfl]|rw[if_pos trivial]
    rw[hR.o,hok,hzg]
    exact (fM (by omega)).trans ((aI _ ⟨q,2,none⟩ _ _ (by show g≠q;omega)).trans yO.o)
   ·have hok:ok=true:=by rw[hO.o,if_neg (by decide),h];rfl
    simp only[uS] at h
    have hZ:=fun (p:Addr)(h1:p.block<w1.heap.size)(h2:p.block≠g)=>(mP.o).cell (p:=p) h1 h2
    have z0':=(hZ ⟨b,o+2*5,none⟩ q3 q4).trans z0
    have z1':=(hZ ⟨b,o+2*5+1,none⟩ q3 q4).trans z1
    have z2':=(hZ ⟨b,o+2*5+2,none⟩ q3 q4).trans z2
    have z3':=(hZ ⟨b,o+2*5+3,none⟩ q3 q4).trans z3
    have XD:=(hZ ⟨b,o+2*5+4,none⟩ q3 q4).trans z4
    clear hZ z0 z1 z2 z3 z4
    have yN:=ae (ji (.mk zk zs zn zl za) A3 c3 g _ w4 HR4.o)
    simp only[T.val,T.k,T.s,T.n,T.kids,T.at_] at yN
    generalize zl.length=zm at *
    go_wp2_with fail
    refine (yN.o).mono ?_
    rintro e w6 ⟨rfl,nH,qK⟩
    have qR:=ae nH
    have yO:=ae qK
    have hs6:=nH.size
    have yP:=ae ((nH.block (w.heap.size+1) (by omega) (by omega)).trans HT4.o)
    have CV:=ae ((nH.block q (by omega) (by omega)).trans HQ.o)
    clear nH qK a0 a1 a2 f0 f1 f2 t0 t1 t2 g0 g1 g2 k0 k1 k2 k3 k4
    obtain⟨⟨a0,a1,a2⟩,f0,f1,f2⟩:=fH CV.o
    obtain⟨⟨t0,t1,t2⟩,g0,g1,g2⟩:=fH yP.o
    go_wp2_with fail
    refine aJ (fP rfl rfl (fK ((aI _ ⟨q,2,none⟩ _ _ (by show w.heap.size+1≠q;omega)).trans yP.o))) rfl ?_
    refine⟨by rw[hV.o],(((((((dU HB1.o).trans mP.o).trans qR.o).dQ (p:=⟨q,2,none⟩) (by show w.heap.size≤q;omega) (.string zs)).dQ (p:=⟨w.heap.size+1,0,none⟩) (aW _) _).dQ (p:=⟨w.heap.size+1,1,none⟩) (aW _) _).dQ (p:=⟨w.heap.size+1,2,none⟩) (aW _) _),?_⟩
    rw[hR2.o]
    first|rw[if_pos rfl]|rw[if_pos trivial]
    rw[hR.o,hok,hzg]
    exact (fM (by omega)).trans ((aI _ ⟨q,2,none⟩ _ _ (by show g≠q;omega)).trans yO.o)
   ·have hok:ok=true:=by rw[hO.o,if_neg (by decide),h];rfl
    simp only[uT] at h
    have hZ:=fun (p:Addr)(h1:p.block<w1.heap.size)(h2:p.block≠g)=>(mP.o).cell (p:=p) h1 h2
    have z0':=(hZ ⟨b,o+2*5,none⟩ q3 q4).trans z0
    have z1':=(hZ ⟨b,o+2*5+1,none⟩ q3 q4).trans z1
    have z2':=(hZ ⟨b,o+2*5+2,none⟩ q3 q4).trans z2
    have z3':=(hZ ⟨b,o+2*5+3,none⟩ q3 q4).trans z3
    have XD:=(hZ ⟨b,o+2*5+4,none⟩ q3 q4).trans z4
    clear hZ z0 z1 z2 z3 z4
    have yN:=ae (ji (.mk zk zs zn zl za) A3 c3 g _ w4 HR4.o)
    simp only[T.val,T.k,T.s,T.n,T.kids,T.at_] at yN
    generalize zl.length=zm at *
    go_wp2_with fail
    refine (yN.o).mono ?_
    rintro e w6 ⟨rfl,nH,qK⟩
    have qR:=ae nH
    have yO:=ae qK
    have hs6:=nH.size
    have yP:=ae ((nH.block (w.heap.size+1) (by omega) (by omega)).trans HT4.o)
    have CV:=ae ((nH.block q (by omega) (by omega)).trans HQ.o)
    clear nH qK a0 a1 a2 f0 f1 f2 t0 t1 t2 g0 g1 g2 k0 k1 k2 k3 k4
    obtain⟨⟨a0,a1,a2⟩,f0,f1,f2⟩:=fH CV.o
    obtain⟨⟨t0,t1,t2⟩,g0,g1,g2⟩:=fH yP.o
    go_wp2_with fail
    refine aJ (fP rfl rfl (fK ((aI _ ⟨q,2,none⟩ _ _ (by show w.heap.size+1≠q;omega)).trans yP.o))) rfl ?_
    refine⟨by rw[hV.o],(((((((dU HB1.o).trans mP.o).trans qR.o).dQ (p:=⟨q,2,none⟩) (by show w.heap.size≤q;omega) (.string zs)).dQ (p:=⟨w.heap.size+1,0,none⟩) (aW _) _).dQ (p:=⟨w.heap.size+1,1,none⟩) (aW _) _).dQ (p:=⟨w.heap.size+1,2,none⟩) (aW _) _),?_⟩
    rw[hR2.o]
    first|rw[if_pos rfl]|rw[if_pos trivial]
    rw[hR.o,hok,hzg]
    exact (fM (by omega)).trans ((aI _ ⟨q,2,none⟩ _ _ (by show g≠q;omega)).trans yO.o)
   ·have hok:ok=false:=by rw[hO.o,if_neg (by decide),h];rfl
    simp only[ig] at h
    go_wp2_with fail
    refine (ik g st1 12 ya w4 HR4.o).mono ?_
    rintro e w5 ⟨rfl,iJ,oI⟩
    have jq:=ae iJ
    have wU:=ae oI
    have hs5:=iJ.size
    have uC:=ae ((iJ.block w.heap.size (by omega) q2).trans uz.o)
    have uD:=ae ((iJ.block (w.heap.size+1) (by omega) (by omega)).trans HT4.o)
    have wV:=ae ((iJ.block q hq1 (by omega)).trans HQ.o)
    clear iJ oI a0 a1 a2 f0 f1 f2 t0 t1 t2 g0 g1 g2 k0 k1 k2 k3 k4 p4
    obtain⟨⟨k0,k1,k2,k3,k4⟩,_,_,_,_,_⟩:=dN uC.o
    obtain⟨⟨a0,a1,a2⟩,f0,f1,f2⟩:=fH wV.o
    obtain⟨⟨t0,t1,t2⟩,g0,g1,g2⟩:=fH uD.o
    have hZ:=fun (p:Addr)(h1:p.block<w1.heap.size)(h2:p.block≠g)=>((mP.o.trans jq.o)).cell (p:=p) h1 h2
    have z0':=(hZ ⟨b,o+2*5,none⟩ q3 q4).trans z0
    have z1':=(hZ ⟨b,o+2*5+1,none⟩ q3 q4).trans z1
    have z2':=(hZ ⟨b,o+2*5+2,none⟩ q3 q4).trans z2
    have z3':=(hZ ⟨b,o+2*5+3,none⟩ q3 q4).trans z3
    have XD:=(hZ ⟨b,o+2*5+4,none⟩ q3 q4).trans z4
    clear hZ z0 z1 z2 z3 z4
    have yN:=ae (ji (.mk zk zs zn zl za) A3 c3 g _ w5 wU.o)
    simp only[T.val,T.k,T.s,T.n,T.kids,T.at_] at yN
    generalize zl.length=zm at *
    go_wp2_with fail
    refine (yN.o).mono ?_
    rintro e w6 ⟨rfl,nH,qK⟩
    have qR:=ae nH
    have yO:=ae qK
    have hs6:=nH.size
    have yP:=ae ((nH.block (w.heap.size+1) (by omega) (by omega)).trans uD.o)
    have CV:=ae ((nH.block q (by omega) (by omega)).trans wV.o)
    clear nH qK a0 a1 a2 f0 f1 f2 t0 t1 t2 g0 g1 g2 k0 k1 k2 k3 k4
    obtain⟨⟨a0,a1,a2⟩,f0,f1,f2⟩:=fH CV.o
    obtain⟨⟨t0,t1,t2⟩,g0,g1,g2⟩:=fH yP.o
    go_wp2_with fail
    refine aJ (fP rfl rfl (fK ((aI _ ⟨q,2,none⟩ _ _ (by show w.heap.size+1≠q;omega)).trans yP.o))) rfl ?_
    refine⟨by rw[hV.o],((((((((dU HB1.o).trans mP.o).trans jq.o).trans qR.o).dQ (p:=⟨q,2,none⟩) (by show w.heap.size≤q;omega) (.string zs)).dQ (p:=⟨w.heap.size+1,0,none⟩) (aW _) _).dQ (p:=⟨w.heap.size+1,1,none⟩) (aW _) _).dQ (p:=⟨w.heap.size+1,2,none⟩) (aW _) _),?_⟩
    rw[hR2.o]
    first|rw[if_pos rfl]|rw[if_pos trivial]
    rw[hR.o,hok,hzg]
    exact (fM (by omega)).trans ((aI _ ⟨q,2,none⟩ _ _ (by show g≠q;omega)).trans yO.o)
   ·have hok:ok=false:=by rw[hO.o,if_neg (by decide),e1,e2,e3];rfl
    simp only[pY,uS,uT,ig] at e1 e2 e3 e4
    go_wp2_with fail
    refine (ik g st1 12 ya w4 HR4.o).mono ?_
    rintro e w5 ⟨rfl,iJ,oI⟩
    have jq:=ae iJ
    have wU:=ae oI
    have hs5:=iJ.size
    have uC:=ae ((iJ.block w.heap.size (by omega) q2).trans uz.o)
    have uD:=ae ((iJ.block (w.heap.size+1) (by omega) (by omega)).trans HT4.o)
    have wV:=ae ((iJ.block q hq1 (by omega)).trans HQ.o)
    clear iJ oI a0 a1 a2 f0 f1 f2 t0 t1 t2 g0 g1 g2 k0 k1 k2 k3 k4 p4
    obtain⟨⟨k0,k1,k2,k3,k4⟩,_,_,_,_,_⟩:=dN uC.o
    obtain⟨⟨a0,a1,a2⟩,f0,f1,f2⟩:=fH wV.o
    obtain⟨⟨t0,t1,t2⟩,g0,g1,g2⟩:=fH uD.o
    have hZ:=fun (p:Addr)(h1:p.block<w1.heap.size)(h2:p.block≠g)=>((mP.o.trans jq.o)).cell (p:=p) h1 h2
    have z0':=(hZ ⟨b,o+2*5,none⟩ q3 q4).trans z0
    have z1':=(hZ ⟨b,o+2*5+1,none⟩ q3 q4).trans z1
    have z2':=(hZ ⟨b,o+2*5+2,none⟩ q3 q4).trans z2
    have z3':=(hZ ⟨b,o+2*5+3,none⟩ q3 q4).trans z3
    have XD:=(hZ ⟨b,o+2*5+4,none⟩ q3 q4).trans z4
    clear hZ z0 z1 z2 z3 z4
    have yN:=ae (ji (.mk zk zs zn zl za) A3 c3 g _ w5 wU.o)
    simp only[T.val,T.k,T.s,T.n,T.kids,T.at_] at yN
    generalize zl.length=zm at *
    go_wp2_with fail
    refine (yN.o).mono ?_
    rintro e w6 ⟨rfl,nH,qK⟩
    have qR:=ae nH
    have yO:=ae qK
    have hs6:=nH.size
    have yP:=ae ((nH.block (w.heap.size+1) (by omega) (by omega)).trans uD.o)
    have CV:=ae ((nH.block q (by omega) (by omega)).trans wV.o)
    clear nH qK a0 a1 a2 f0 f1 f2 t0 t1 t2 g0 g1 g2 k0 k1 k2 k3 k4
    obtain⟨⟨a0,a1,a2⟩,f0,f1,f2⟩:=fH CV.o
    obtain⟨⟨t0,t1,t2⟩,g0,g1,g2⟩:=fH yP.o
    go_wp2_with fail
    refine aJ (fP rfl rfl (fK ((aI _ ⟨q,2,none⟩ _ _ (by show w.heap.size+1≠q;omega)).trans yP.o))) rfl ?_
    refine⟨by rw[hV.o],((((((((dU HB1.o).trans mP.o).trans jq.o).trans qR.o).dQ (p:=⟨q,2,none⟩) (by show w.heap.size≤q;omega) (.string zs)).dQ (p:=⟨w.heap.size+1,0,none⟩) (aW _) _).dQ (p:=⟨w.heap.size+1,1,none⟩) (aW _) _).dQ (p:=⟨w.heap.size+1,2,none⟩) (aW _) _),?_⟩
    rw[hR2.o]
    first|rw[if_pos rfl]|rw[if_pos trivial]
    rw[hR.o,hok,hzg]
    exact (fM (by omega)).trans ((aI _ ⟨q,2,none⟩ _ _ (by show g≠q;omega)).trans yO.o)
 ·simp only[ah,aj,ai]
  go_simp
  have hSA:=(Only.refl g w1).drew.alloc (.cells #[.string ⟨#[]⟩,.string ⟨#[]⟩,.string ⟨#[]⟩] 46)
  refine hK.o _ _ hSA (fun hHeld=>?_)
  clear hK K
  refine wpAnyH_ready (rs:=[5]) (by kernel_rfl) (by simp) ?_
  refine AllReadyH.cons rfl (fun K hK=>?_) AllReadyH.nil
  simp only[ah,aj,ai]
  go_simp
  refine (Uw.o (w1.drew.alloc (.cells #[.string ⟨#[]⟩,.string ⟨#[]⟩,.string ⟨#[]⟩] 46)) (show sU (w1.drew.alloc (.cells #[.string ⟨#[]⟩,.string ⟨#[]⟩,.string ⟨#[]⟩] 46)) g st from HR1.o.kept ((aG _ _).drew.alloc (aF _) _))).mono ?_
  rintro e w3 ⟨rfl,hod,hr3⟩
  go_wp2_with fail
  have ho3:=hSA.trans hod
  refine hK.o _ _ ho3 (fun hHeld=>?_)
  clear hK K
  have hz3:w3.heap[w1.heap.size]?=some (.cells #[.string ⟨#[]⟩,.string ⟨#[]⟩,.string ⟨#[]⟩] 46 (0,0)):=(hod.block w1.heap.size (by simp) (by omega)).trans (aH w1.drew _)
  obtain⟨⟨a0,a1,a2⟩,f0,f1,f2⟩:=fH hz3
  have hs3:w1.heap.size<w3.heap.size:=(aU.1 hz3).1
  refine aC (i:=11) (v:=.agg #[.string xs,.string ys,.string ⟨#[]⟩]) rfl (by kernel_rfl) aA (bD ⟨by rfl,fun _ _=>by go_simp⟩) ‹_› ?_
  simp only[ah,aj,ai,Act.put,au,ay,az]
  refine wpAnyH_ready (rs:=[13]) (by kernel_rfl) (by simp) ?_
  refine AllReadyH.cons rfl (fun K hK=>?_) AllReadyH.nil
  simp only[ah,aj,ai]
  go_simp
  have hSC:=((ho3.dQ (p:=⟨w1.heap.size,0,none⟩) (aF _) (.string xs)).dQ (p:=⟨w1.heap.size,1,none⟩) (aF _) (.string ys)).dQ (p:=⟨w1.heap.size,2,none⟩) (aF _) (.string ⟨#[]⟩)
  refine hK.o _ _ hSC (fun hHeld=>?_)
  clear hK K
  refine wpAnyH_done (by kernel_rfl) ?_ _
  obtain⟨w4,yw⟩:∃ w4,w4=DR w3 w1.heap.size (.string xs) (.string ys) (.string ⟨#[]⟩):=⟨_,rfl⟩
  obtain⟨q,eq⟩:∃ q,q=w1.heap.size:=⟨_,rfl⟩
  skip
  have hq:q<w4.heap.size∧w1.heap.size≤q:=by rw[yw,eq];exact⟨by rw[NM];exact hs3,aF _⟩
  have hQ:w4.heap[q]?=some (.cells #[.string xs,.string ys,.string ⟨#[]⟩] 46 (0,0)):=by rw[yw,eq];exact fK hz3
  have hO4:Only g w1 w4:=by rw[yw];exact hSC
  have XC:sU w4 g st1:=by rw[yw];exact (fM (by omega)).trans hr3
  clear a0 a1 a2 f0 f1 f2
  unfold DR at yw
  rw[←yw,←eq]
  have HQ:=ae hQ
  have mP:=ae hO4
  have HR4:=ae XC
  have hq1:=hq.1
  have hq2:=hq.2
  have hs4:=hO4.size
  have uz:=ae ((hO4.block w.heap.size q1 q2).trans jJ.o)
  have HT4:=ae ((hO4.block (w.heap.size+1) hs1 (by omega)).trans HT1.o)
  have zX:=ae ((hO4.cell (p:=⟨b,o+5+4,none⟩) q3 q4).trans p4)
  clear hQ hO4 XC hq yw eq k0 k1 k2 k3 k4 m0 m1 m2 m3 m4 p0 p1 p2 p3 p4 Uw HW1 HP
  have p4:=zX.o
  obtain⟨⟨k0,k1,k2,k3,k4⟩,_,_,_,_,_⟩:=dN uz.o
  obtain⟨⟨a0,a1,a2⟩,f0,f1,f2⟩:=fH HQ.o
  obtain⟨⟨t0,t1,t2⟩,g0,g1,g2⟩:=fH HT4.o
  rcases hn with rfl|rfl
  ·rcases wM ys.toList with h|h|h|h|⟨e1,e2,e3,e4⟩
   ·have hok:ok=false:=by rw[hO.o,if_pos rfl,h];rfl
    simp only[pY] at h
    go_wp2_with fail
    refine (ik g st1 12 ya w4 HR4.o).mono ?_
    rintro e w5 ⟨rfl,iJ,oI⟩
    have jq:=ae iJ
    have wU:=ae oI
    have hs5:=iJ.size
    have uC:=ae ((iJ.block w.heap.size (by omega) q2).trans uz.o)
    have uD:=ae ((iJ.block (w.heap.size+1) (by omega) (by omega)).trans HT4.o)
    have wV:=ae ((iJ.block q hq1 (by omega)).trans HQ.o)
    clear iJ oI a0 a1 a2 f0 f1 f2 t0 t1 t2 g0 g1 g2 k0 k1 k2 k3 k4 p4
    obtain⟨⟨k0,k1,k2,k3,k4⟩,_,_,_,_,_⟩:=dN uC.o
    obtain⟨⟨a0,a1,a2⟩,f0,f1,f2⟩:=fH wV.o
    obtain⟨⟨t0,t1,t2⟩,g0,g1,g2⟩:=fH uD.o
    go_wp2_with fail
    refine aJ (fP rfl rfl (fK uD.o)) rfl ?_
    refine⟨by rw[hV.o];rfl,((((((dU HB1.o).trans mP.o).trans jq.o).dQ (p:=⟨w.heap.size+1,0,none⟩) (aW _) _).dQ (p:=⟨w.heap.size+1,1,none⟩) (aW _) _).dQ (p:=⟨w.heap.size+1,2,none⟩) (aW _) _),?_⟩
    rw[hR2.o,hR.o,hok]
    exact (fM (by omega)).trans wU.o
   ·have hok:ok=false:=by rw[hO.o,if_pos rfl,h];rfl
    simp only[uS] at h
    go_wp2_with fail
    refine (ik g st1 12 ya w4 HR4.o).mono ?_
    rintro e w5 ⟨rfl,iJ,oI⟩
    have jq:=ae iJ
    have wU:=ae oI
    have hs5:=iJ.size
    have uC:=ae ((iJ.block w.heap.size (by omega) q2).trans uz.o)
    have uD:=ae ((iJ.block (w.heap.size+1) (by omega) (by omega)).trans HT4.o)
    have wV:=ae ((iJ.block q hq1 (by omega)).trans HQ.o)
    clear iJ oI a0 a1 a2 f0 f1 f2 t0 t1 t2 g0 g1 g2 k0 k1 k2 k3 k4 p4
    obtain⟨⟨k0,k1,k2,k3,k4⟩,_,_,_,_,_⟩:=dN uC.o
    obtain⟨⟨a0,a1,a2⟩,f0,f1,f2⟩:=fH wV.o
    obtain⟨⟨t0,t1,t2⟩,g0,g1,g2⟩:=fH uD.o
    go_wp2_with fail
    refine aJ (fP rfl rfl (fK uD.o)) rfl ?_
    refine⟨by rw[hV.o];rfl,((((((dU HB1.o).trans mP.o).trans jq.o).dQ (p:=⟨w.heap.size+1,0,none⟩) (aW _) _).dQ (p:=⟨w.heap.size+1,1,none⟩) (aW _) _).dQ (p:=⟨w.heap.size+1,2,none⟩) (aW _) _),?_⟩
    rw[hR2.o,hR.o,hok]
    exact (fM (by omega)).trans wU.o
   ·have hok:ok=false:=by rw[hO.o,if_pos rfl,h];rfl
    simp only[uT] at h
    go_wp2_with fail
    refine (ik g st1 12 ya w4 HR4.o).mono ?_
    rintro e w5 ⟨rfl,iJ,oI⟩
    have jq:=ae iJ
    have wU:=ae oI
    have hs5:=iJ.size
    have uC:=ae ((iJ.block w.heap.size (by omega) q2).trans uz.o)
    have uD:=ae ((iJ.block (w.heap.size+1) (by omega) (by omega)).trans HT4.o)
    have wV:=ae ((iJ.block q hq1 (by omega)).trans HQ.o)
    clear iJ oI a0 a1 a2 f0 f1 f2 t0 t1 t2 g0 g1 g2 k0 k1 k2 k3 k4 p4
    obtain⟨⟨k0,k1,k2,k3,k4⟩,_,_,_,_,_⟩:=dN uC.o
    obtain⟨⟨a0,a1,a2⟩,f0,f1,f2⟩:=fH wV.o
    obtain⟨⟨t0,t1,t2⟩,g0,g1,g2⟩:=fH uD.o
    go_wp2_with fail
    refine aJ (fP rfl rfl (fK uD.o)) rfl ?_
    refine⟨by rw[hV.o];rfl,((((((dU HB1.o).trans mP.o).trans jq.o).dQ (p:=⟨w.heap.size+1,0,none⟩) (aW _) _).dQ (p:=⟨w.heap.size+1,1,none⟩) (aW _) _).dQ (p:=⟨w.heap.size+1,2,none⟩) (aW _) _),?_⟩
    rw[hR2.o,hR.o,hok]
    exact (fM (by omega)).trans wU.o
   ·have hok:ok=true:=by rw[hO.o,if_pos rfl,h];rfl
    simp only[ig] at h
    go_wp2_with fail
    refine aJ (fP rfl rfl (fK HT4.o)) rfl ?_
    refine⟨by rw[hV.o];rfl,(((((dU HB1.o).trans mP.o).dQ (p:=⟨w.heap.size+1,0,none⟩) (aW _) _).dQ (p:=⟨w.heap.size+1,1,none⟩) (aW _) _).dQ (p:=⟨w.heap.size+1,2,none⟩) (aW _) _),?_⟩
    rw[hR2.o,hR.o,hok]
    exact (fM (by omega)).trans HR4.o
   ·have hok:ok=false:=by rw[hO.o,if_pos rfl,e4]
    simp only[pY,uS,uT,ig] at e1 e2 e3 e4
    go_wp2_with fail
    refine (ik g st1 12 ya w4 HR4.o).mono ?_
    rintro e w5 ⟨rfl,iJ,oI⟩
    have jq:=ae iJ
    have wU:=ae oI
    have hs5:=iJ.size
    have uC:=ae ((iJ.block w.heap.size (by omega) q2).trans uz.o)
    have uD:=ae ((iJ.block (w.heap.size+1) (by omega) (by omega)).trans HT4.o)
    have wV:=ae ((iJ.block q hq1 (by omega)).trans HQ.o)
    clear iJ oI a0 a1 a2 f0 f1 f2 t0 t1 t2 g0 g1 g2 k0 k1 k2 k3 k4 p4
    obtain⟨⟨k0,k1,k2,k3,k4⟩,_,_,_,_,_⟩:=dN uC.o
    obtain⟨⟨a0,a1,a2⟩,f0,f1,f2⟩:=fH wV.o
    obtain⟨⟨t0,t1,t2⟩,g0,g1,g2⟩:=fH uD.o
    go_wp2_with fail
    refine aJ (fP rfl rfl (fK uD.o)) rfl ?_
    refine⟨by rw[hV.o];rfl,((((((dU HB1.o).trans mP.o).trans jq.o).dQ (p:=⟨w.heap.size+1,0,none⟩) (aW _) _).dQ (p:=⟨w.heap.size+1,1,none⟩) (aW _) _).dQ (p:=⟨w.heap.size+1,2,none⟩) (aW _) _),?_⟩
    rw[hR2.o,hR.o,hok]
    exact (fM (by omega)).trans wU.o
  ·obtain⟨z,hz⟩:∃ z,l[2]?=some z:=⟨_,aO (by rw[yt.o];omega)⟩
   obtain⟨b',o',A3,c3,e9,NP,z0,z1,z2,z3,z4,hc3,hK3⟩:=Nk.o.at (by omega) hz
   obtain⟨rfl,rfl⟩:b=b'∧o=o':=by injection e9 with e9;injection e9 with e9 e10;exact⟨e9,e10⟩
   have hzg:=getD_some hz
   have hV':V=⟨xs,ys,z.s⟩:=by rw[hV.o,if_pos rfl,hzg];rfl
   clear hV
   have hV:=ae hV'
   clear hV' e9 NP hc3 hK3 hz
   obtain⟨zk,zs,zn,zl,za⟩:=z
   simp only[T.k,T.s,T.n,T.kids,T.at_] at z0 z1 z2 z3 z4 hV
   rcases wM ys.toList with h|h|h|h|⟨e1,e2,e3,e4⟩
   ·have hok:ok=true:=by rw[hO.o,if_neg (by decide),h];rfl
    simp only[pY] at h
    have hZ:=fun (p:Addr)(h1:p.block<w1.heap.size)(h2:p.block≠g)=>(mP.o).cell (p:=p) h1 h2
    have z0':=(hZ ⟨b,o+2*5,none⟩ q3 q4).trans z0
    have z1':=(hZ ⟨b,o+2*5+1,none⟩ q3 q4).trans z1
    have z2':=(hZ ⟨b,o+2*5+2,none⟩ q3 q4).trans z2
    have z3':=(hZ ⟨b,o+2*5+3,none⟩ q3 q4).trans z3
    have XD:=(hZ ⟨b,o+2*5+4,none⟩ q3 q4).trans z4
    clear hZ z0 z1 z2 z3 z4
    have yN:=ae (ji (.mk zk zs zn zl za) A3 c3 g _ w4 HR4.o)
    simp only[T.val,T.k,T.s,T.n,T.kids,T.at_] at yN
    generalize zl.length=zm at *
    go_wp2_with fail
    refine (yN.o).mono ?_
    rintro e w6 ⟨rfl,nH,qK⟩
    have qR:=ae nH
    have yO:=ae qK
    have hs6:=nH.size
    have yP:=ae ((nH.block (w.heap.size+1) (by omega) (by omega)).trans HT4.o)
    have CV:=ae ((nH.block q (by omega) (by omega)).trans HQ.o)
    clear nH qK a0 a1 a2 f0 f1 f2 t0 t1 t2 g0 g1 g2 k0 k1 k2 k3 k4
    obtain⟨⟨a0,a1,a2⟩,f0,f1,f2⟩:=fH CV.o
    obtain⟨⟨t0,t1,t2⟩,g0,g1,g2⟩:=fH yP.o
    go_wp2_with fail
    refine aJ (fP rfl rfl (fK ((aI _ ⟨q,2,none⟩ _ _ (by show w.heap.size+1≠q;omega)).trans yP.o))) rfl ?_
    refine⟨by rw[hV.o],(((((((dU HB1.o).trans mP.o).trans qR.o).dQ (p:=⟨q,2,none⟩) (by show w.heap.size≤q;omega) (.string zs)).dQ (p:=⟨w.heap.size+1,0,none⟩) (aW _) _).dQ (p:=⟨w.heap.size+1,1,none⟩) (aW _) _).dQ (p:=⟨w.heap.size+1,2,none⟩) (aW _) _),?_⟩
    rw[hR2.o]
    first|rw[if_pos rfl]|rw[if_pos trivial]
    rw[hR.o,hok,hzg]
    exact (fM (by omega)).trans ((aI _ ⟨q,2,none⟩ _ _ (by show g≠q;omega)).trans yO.o)
   ·have hok:ok=true:=by rw[hO.o,if_neg (by decide),h];rfl
    simp only[uS] at h
    have hZ:=fun (p:Addr)(h1:p.block<w1.heap.size)(h2:p.block≠g)=>(mP.o).cell (p:=p) h1 h2
    have z0':=(hZ ⟨b,o+2*5,none⟩ q3 q4).trans z0
    have z1':=(hZ ⟨b,o+2*5+1,none⟩ q3 q4).trans z1
    have z2':=(hZ ⟨b,o+2*5+2,none⟩ q3 q4).trans z2
    have z3':=(hZ ⟨b,o+2*5+3,none⟩ q3 q4).trans z3
    have XD:=(hZ ⟨b,o+2*5+4,none⟩ q3 q4).trans z4
    clear hZ z0 z1 z2 z3 z4
    have yN:=ae (ji (.mk zk zs zn zl za) A3 c3 g _ w4 HR4.o)
    simp only[T.val,T.k,T.s,T.n,T.kids,T.at_] at yN
    generalize zl.length=zm at *
    go_wp2_with fail
    refine (yN.o).mono ?_
    rintro e w6 ⟨rfl,nH,qK⟩
    have qR:=ae nH
    have yO:=ae qK
    have hs6:=nH.size
    have yP:=ae ((nH.block (w.heap.size+1) (by omega) (by omega)).trans HT4.o)
    have CV:=ae ((nH.block q (by omega) (by omega)).trans HQ.o)
    clear nH qK a0 a1 a2 f0 f1 f2 t0 t1 t2 g0 g1 g2 k0 k1 k2 k3 k4
    obtain⟨⟨a0,a1,a2⟩,f0,f1,f2⟩:=fH CV.o
    obtain⟨⟨t0,t1,t2⟩,g0,g1,g2⟩:=fH yP.o
    go_wp2_with fail
    refine aJ (fP rfl rfl (fK ((aI _ ⟨q,2,none⟩ _ _ (by show w.heap.size+1≠q;omega)).trans yP.o))) rfl ?_
    refine⟨by rw[hV.o],(((((((dU HB1.o).trans mP.o).trans qR.o).dQ (p:=⟨q,2,none⟩) (by show w.heap.size≤q;omega) (.string zs)).dQ (p:=⟨w.heap.size+1,0,none⟩) (aW _) _).dQ (p:=⟨w.heap.size+1,1,none⟩) (aW _) _).dQ (p:=⟨w.heap.size+1,2,none⟩) (aW _) _),?_⟩
    rw[hR2.o]
    first|rw[if_pos rfl]|rw[if_pos trivial]
    rw[hR.o,hok,hzg]
    exact (fM (by omega)).trans ((aI _ ⟨q,2,none⟩ _ _ (by show g≠q;omega)).trans yO.o)
   ·have hok:ok=true:=by rw[hO.o,if_neg (by decide),h];rfl
    simp only[uT] at h
    have hZ:=fun (p:Addr)(h1:p.block<w1.heap.size)(h2:p.block≠g)=>(mP.o).cell (p:=p) h1 h2
    have z0':=(hZ ⟨b,o+2*5,none⟩ q3 q4).trans z0
    have z1':=(hZ ⟨b,o+2*5+1,none⟩ q3 q4).trans z1
    have z2':=(hZ ⟨b,o+2*5+2,none⟩ q3 q4).trans z2
    have z3':=(hZ ⟨b,o+2*5+3,none⟩ q3 q4).trans z3
    have XD:=(hZ ⟨b,o+2*5+4,none⟩ q3 q4).trans z4
    clear hZ z0 z1 z2 z3 z4
    have yN:=ae (ji (.mk zk zs zn zl za) A3 c3 g _ w4 HR4.o)
    simp only[T.val,T.k,T.s,T.n,T.kids,T.at_] at yN
    generalize zl.length=zm at *
    go_wp2_with fail
    refine (yN.o).mono ?_
    rintro e w6 ⟨rfl,nH,qK⟩
    have qR:=ae nH
    have yO:=ae qK
    have hs6:=nH.size
    have yP:=ae ((nH.block (w.heap.size+1) (by omega) (by omega)).trans HT4.o)
    have CV:=ae ((nH.block q (by omega) (by omega)).trans HQ.o)
    clear nH qK a0 a1 a2 f0 f1 f2 t0 t1 t2 g0 g1 g2 k0 k1 k2 k3 k4
    obtain⟨⟨a0,a1,a2⟩,f0,f1,f2⟩:=fH CV.o
    obtain⟨⟨t0,t1,t2⟩,g0,g1,g2⟩:=fH yP.o
    go_wp2_with fail
    refine aJ (fP rfl rfl (fK ((aI _ ⟨q,2,none⟩ _ _ (by show w.heap.size+1≠q;omega)).trans yP.o))) rfl ?_
    refine⟨by rw[hV.o],(((((((dU HB1.o).trans mP.o).trans qR.o).dQ (p:=⟨q,2,none⟩) (by show w.heap.size≤q;omega) (.string zs)).dQ (p:=⟨w.heap.size+1,0,none⟩) (aW _) _).dQ (p:=⟨w.heap.size+1,1,none⟩) (aW _) _).dQ (p:=⟨w.heap.size+1,2,none⟩) (aW _) _),?_⟩
    rw[hR2.o]
    first|rw[if_pos rfl]|rw[if_pos trivial]
    rw[hR.o,hok,hzg]
    exact (fM (by omega)).trans ((aI _ ⟨q,2,none⟩ _ _ (by show g≠q;omega)).trans yO.o)
   ·have hok:ok=false:=by rw[hO.o,if_neg (by decide),h];rfl
    simp only[ig] at h
    go_wp2_with fail
    refine (ik g st1 12 ya w4 HR4.o).mono ?_
    rintro e w5 ⟨rfl,iJ,oI⟩
    have jq:=ae iJ
    have wU:=ae oI
    have hs5:=iJ.size
    have uC:=ae ((iJ.block w.heap.size (by omega) q2).trans uz.o)
    have uD:=ae ((iJ.block (w.heap.size+1) (by omega) (by omega)).trans HT4.o)
    have wV:=ae ((iJ.block q hq1 (by omega)).trans HQ.o)
    clear iJ oI a0 a1 a2 f0 f1 f2 t0 t1 t2 g0 g1 g2 k0 k1 k2 k3 k4 p4
    obtain⟨⟨k0,k1,k2,k3,k4⟩,_,_,_,_,_⟩:=dN uC.o
    obtain⟨⟨a0,a1,a2⟩,f0,f1,f2⟩:=fH wV.o
    obtain⟨⟨t0,t1,t2⟩,g0,g1,g2⟩:=fH uD.o
    have hZ:=fun (p:Addr)(h1:p.block<w1.heap.size)(h2:p.block≠g)=>((mP.o.trans jq.o)).cell (p:=p) h1 h2
    have z0':=(hZ ⟨b,o+2*5,none⟩ q3 q4).trans z0
    have z1':=(hZ ⟨b,o+2*5+1,none⟩ q3 q4).trans z1
    have z2':=(hZ ⟨b,o+2*5+2,none⟩ q3 q4).trans z2
    have z3':=(hZ ⟨b,o+2*5+3,none⟩ q3 q4).trans z3
    have XD:=(hZ ⟨b,o+2*5+4,none⟩ q3 q4).trans z4
    clear hZ z0 z1 z2 z3 z4
    have yN:=ae (ji (.mk zk zs zn zl za) A3 c3 g _ w5 wU.o)
    simp only[T.val,T.k,T.s,T.n,T.kids,T.at_] at yN
    generalize zl.length=zm at *
    go_wp2_with fail
    refine (yN.o).mono ?_
    rintro e w6 ⟨rfl,nH,qK⟩
    have qR:=ae nH
    have yO:=ae qK
    have hs6:=nH.size
    have yP:=ae ((nH.block (w.heap.size+1) (by omega) (by omega)).trans uD.o)
    have CV:=ae ((nH.block q (by omega) (by omega)).trans wV.o)
    clear nH qK a0 a1 a2 f0 f1 f2 t0 t1 t2 g0 g1 g2 k0 k1 k2 k3 k4
    obtain⟨⟨a0,a1,a2⟩,f0,f1,f2⟩:=fH CV.o
    obtain⟨⟨t0,t1,t2⟩,g0,g1,g2⟩:=fH yP.o
    go_wp2_with fail
    refine aJ (fP rfl rfl (fK ((aI _ ⟨q,2,none⟩ _ _ (by show w.heap.size+1≠q;omega)).trans yP.o))) rfl ?_
    refine⟨by rw[hV.o],((((((((dU HB1.o).trans mP.o).trans jq.o).trans qR.o).dQ (p:=⟨q,2,none⟩) (by show w.heap.size≤q;omega) (.string zs)).dQ (p:=⟨w.heap.size+1,0,none⟩) (aW _) _).dQ (p:=⟨w.heap.size+1,1,none⟩) (aW _) _).dQ (p:=⟨w.heap.size+1,2,none⟩) (aW _) _),?_⟩
    rw[hR2.o]
    first|rw[if_pos rfl]|rw[if_pos trivial]
    rw[hR.o,hok,hzg]
    exact (fM (by omega)).trans ((aI _ ⟨q,2,none⟩ _ _ (by show g≠q;omega)).trans yO.o)
   ·have hok:ok=false:=by rw[hO.o,if_neg (by decide),e1,e2,e3];rfl
    simp only[pY,uS,uT,ig] at e1 e2 e3 e4
    go_wp2_with fail
    refine (ik g st1 12 ya w4 HR4.o).mono ?_
    rintro e w5 ⟨rfl,iJ,oI⟩
    have jq:=ae iJ
    have wU:=ae oI
    have hs5:=iJ.size
    have uC:=ae ((iJ.block w.heap.size (by omega) q2).trans uz.o)
    have uD:=ae ((iJ.block (w.heap.size+1) (by omega) (by omega)).trans HT4.o)
    have wV:=ae ((iJ.block q hq1 (by omega)).trans HQ.o)
    clear iJ oI a0 a1 a2 f0 f1 f2 t0 t1 t2 g0 g1 g2 k0 k1 k2 k3 k4 p4
    obtain⟨⟨k0,k1,k2,k3,k4⟩,_,_,_,_,_⟩:=dN uC.o
    obtain⟨⟨a0,a1,a2⟩,f0,f1,f2⟩:=fH wV.o
    obtain⟨⟨t0,t1,t2⟩,g0,g1,g2⟩:=fH uD.o
    have hZ:=fun (p:Addr)(h1:p.block<w1.heap.size)(h2:p.block≠g)=>((mP.o.trans jq.o)).cell (p:=p) h1 h2
    have z0':=(hZ ⟨b,o+2*5,none⟩ q3 q4).trans z0
    have z1':=(hZ ⟨b,o+2*5+1,none⟩ q3 q4).trans z1
    have z2':=(hZ ⟨b,o+2*5+2,none⟩ q3 q4).trans z2
    have z3':=(hZ ⟨b,o+2*5+3,none⟩ q3 q4).trans z3
    have XD:=(hZ ⟨b,o+2*5+4,none⟩ q3 q4).trans z4
    clear hZ z0 z1 z2 z3 z4
    have yN:=ae (ji (.mk zk zs zn zl za) A3 c3 g _ w5 wU.o)
    simp only[T.val,T.k,T.s,T.n,T.kids,T.at_] at yN
    generalize zl.length=zm at *
    go_wp2_with fail
    refine (yN.o).mono ?_
    rintro e w6 ⟨rfl,nH,qK⟩
    have qR:=ae nH
    have yO:=ae qK
    have hs6:=nH.size
    have yP:=ae ((nH.block (w.heap.size+1) (by omega) (by omega)).trans uD.o)
    have CV:=ae ((nH.block q (by omega) (by omega)).trans wV.o)
    clear nH qK a0 a1 a2 f0 f1 f2 t0 t1 t2 g0 g1 g2 k0 k1 k2 k3 k4
    obtain⟨⟨a0,a1,a2⟩,f0,f1,f2⟩:=fH CV.o
    obtain⟨⟨t0,t1,t2⟩,g0,g1,g2⟩:=fH yP.o
    go_wp2_with fail
    refine aJ (fP rfl rfl (fK ((aI _ ⟨q,2,none⟩ _ _ (by show w.heap.size+1≠q;omega)).trans yP.o))) rfl ?_
    refine⟨by rw[hV.o],((((((((dU HB1.o).trans mP.o).trans jq.o).trans qR.o).dQ (p:=⟨q,2,none⟩) (by show w.heap.size≤q;omega) (.string zs)).dQ (p:=⟨w.heap.size+1,0,none⟩) (aW _) _).dQ (p:=⟨w.heap.size+1,1,none⟩) (aW _) _).dQ (p:=⟨w.heap.size+1,2,none⟩) (aW _) _),?_⟩
    rw[hR2.o]
    first|rw[if_pos rfl]|rw[if_pos trivial]
    rw[hR.o,hok,hzg]
    exact (fM (by omega)).trans ((aI _ ⟨q,2,none⟩ _ _ (by show g≠q;omega)).trans yO.o)
def NS (e:E):Prop:=qC e→∀ (A:Option Addr)(c:Nat)(w:World),iZ w w.heap.size A e.kids →
 Calls Tryz.prog 67 #[e.val A c] w fun r w'=>(∃ A' c',r=.returned ((iy e).val A' c')∧(iy e).kids.length≤c'∧mQ w' (fun k=>w.heap.size≤k∧k<w'.heap.size) A' (iy e).kids)∧Below w.heap.size w w'
theorem nK {w w':World} {base n c g:Nat} {e:TypeId} {z:Nat} {xs:List Value} (h:w.ownsRow base e z (.slice (some ⟨g,0,none⟩) n c) n xs)(hb:w'.heap[g]?=w.heap[g]?):w'.ownsRow base e z (.slice (some ⟨g,0,none⟩) n c) n xs:=by
 refine⟨h.1,?_⟩
 rcases h.2 with hn|⟨g',cap,cur,e1,hg,hgg,rest⟩
 ·exact .inl hn
 ·have hgg':g=g':=by injection e1 with e1;injection e1 with e1;injection e1
  subst hgg'
  exact .inr ⟨g,cap,cur,e1,hg,by rw[hb];exact hgg,rest⟩
theorem DU {l:List E} {j:Nat} {x:E} (h:l[j]?=some x):(kV l).take (j+1)=(kV l).take j++[iy x]:=by
 induction l generalizing j with
 | nil=>simp at h
 | cons y l ih =>
   cases j with
   | zero =>
     obtain rfl:y=x:=by simpa using h
     rw[kV]
     rfl
   | succ j =>
     rw[kV,List.take_succ_cons,List.take_succ_cons,ih (by simpa using h)]
     rfl
theorem IM (s:ByteArray):gX s.toList≤3:=by
 unfold gX
 repeat' split
 all_goals decide
theorem rX (s:ByteArray)(w:World)(S:Nat→Prop):∀ p∈[((.mk 2 s 0 [] 0:T),(none:Option Addr),0)],p.1.kids.length≤p.2.2∧mQ w S p.2.1 p.1.kids:=fun p hp=>by
 obtain rfl:p=((.mk 2 s 0 [] 0:T),none,0):=by simpa using hp
 exact⟨aF _,.nil _⟩
theorem Q8 (k:Int)(s:ByteArray)(n:Int)(l:List E)(hM:∀ e∈l,NS e):NS (.mk k s n l):=by
 intro hm A c w hA
 have jY:=JV (.mk k s n l)
 unfold sQ at jY
 rw[hm.ok] at jY
 simp only[E.val,E.k,E.s,E.n,E.kids] at hA jY ⊢
 obtain⟨tr,htr⟩:∃ tr,tr=iy (.mk k s n l):=⟨_,rfl⟩
 rw[←htr]
 have IP:=ae htr
 clear htr
 obtain⟨ln,rH⟩:∃ ln,ln=l.length:=⟨_,rfl⟩
 have hlen:=hA.len
 rw[←rH] at hlen jY ⊢
 obtain⟨wa,qx⟩:∃ wa,wa=w.alloc (.cells #[.int .i64 k,.string s,.int .i64 n,.slice A ln c] 38):=⟨_,rfl⟩
 have hba:Below w.heap.size w wa:=by rw[qx];exact (aG _ _).alloc (aF _) _
 have hsa:wa.heap.size=w.heap.size+1:=by rw[qx];simp
 have hxa:wa.heap[w.heap.size]?=some (.cells #[.int .i64 k,.string s,.int .i64 n,.slice A ln c] 38 (0,0)):=by rw[qx];exact aH w _
 obtain⟨w1,dZ⟩:∃ w1,w1=wa.alloc (.cells #[.int .i64 0,.string ⟨#[]⟩,.int .i64 0,.slice none 0 0,.int .i64 0] 71):=⟨_,rfl⟩
 have hb1:Below wa.heap.size wa w1:=by rw[dZ];exact (aG _ _).alloc (aF _) _
 have hs1:w1.heap.size=w.heap.size+2:=by rw[dZ];simp;omega
 have hr1:w1.heap[w.heap.size+1]?=some (.cells #[.int .i64 0,.string ⟨#[]⟩,.int .i64 0,.slice none 0 0,.int .i64 0] 71 (0,0)):=by rw[dZ,←hsa];exact aH wa _
 have hx1:w1.heap[w.heap.size]?=some (.cells #[.int .i64 k,.string s,.int .i64 n,.slice A ln c] 38 (0,0)):=(hb1.block _ (by omega)).trans hxa
 have hbw:Below w.heap.size w w1:=hba.trans (hb1.mono (by omega))
 have hmd:=ae (jY A c w1 ((hA.low hbw).more hbw.size))
 obtain⟨⟨k0,k1,k2,k3⟩,_,_,_,_⟩:=fQ hx1
 have HW1:=ae (show w1=(w.alloc (.cells #[.int .i64 k,.string s,.int .i64 n,.slice A ln c] 38)).alloc (.cells #[.int .i64 0,.string ⟨#[]⟩,.int .i64 0,.slice none 0 0,.int .i64 0] 71) by rw[dZ,qx])
 have jJ:=ae hx1
 have HR1:=ae hr1
 have HB1:=ae hbw
 have HK:=ae hA
 have kC:=ae rH
 have HM:=ae hM
 clear qx hba hsa hxa dZ hb1 hr1 hx1 hbw jY hA hM rH wa
 go_enter Tryz.func67,Tryz.ntmps67
 go_upto_region 1 with (fail)
 rw[←HW1.o]
 go_wp2_with fail
 refine (hmd.o).mono ?_
 rintro r wm ⟨rfl,hbm⟩
 have ZG:=ae ((hbm.block w.heap.size (by omega)).trans jJ.o)
 have Ux:=ae ((hbm.block (w.heap.size+1) (by omega)).trans HR1.o)
 have XE:=ae (HB1.o.trans (hbm.mono (by omega)))
 have hsm:=hbm.size
 obtain⟨⟨k0,k1,k2,k3⟩,_,_,_,_⟩:=fQ ZG.o
 obtain⟨⟨r0,r1,r2,r3,r4⟩,s0,s1,s2,s3,s4⟩:=dN Ux.o
 clear hbm
 cases hm with
 | xH s h =>
   go_wp2_with fail
   refine aJ (jw rfl rfl (dR Ux.o)) rfl ?_
   rw[IP.o,yU]
   exact⟨⟨none,0,rfl,aF _,.nil _⟩,dS XE.o (aW _)⟩
 | num n =>
   go_wp2_with fail
   refine aJ (jw rfl rfl (dR Ux.o)) rfl ?_
   rw[IP.o,yV]
   exact⟨⟨none,0,rfl,aF _,.nil _⟩,dS XE.o (aW _)⟩
 | str s =>
   go_wp2_with fail
   refine aJ (jw rfl rfl (dR Ux.o)) rfl ?_
   rw[IP.o,yX]
   exact⟨⟨none,0,rfl,aF _,.nil _⟩,dS XE.o (aW _)⟩
 | app s l h0 hl hk =>
   have hlf:ln≤600:=by have:=IM s;have:=kC.o;omega
   obtain⟨i0,hi,hz0,hz1,hz2⟩:=info_parts pO
   obtain⟨wn,Uy⟩:∃ wn,wn=wm.alloc (.cells #[.int .i64 2,.string s,.int .i64 0,.slice none 0 0,.int .i64 0] 71):=⟨_,rfl⟩
   have hbn:Below wm.heap.size wm wn:=by rw[Uy];exact (aG _ _).alloc (aF _) _
   have hsn:wn.heap.size=wm.heap.size+1:=by rw[Uy];simp
   have hnn:wn.heap[wm.heap.size]?=some (.cells #[.int .i64 2,.string s,.int .i64 0,.slice none 0 0,.int .i64 0] 71 (0,0)):=by rw[Uy];exact aH wm _
   obtain⟨wl,Uz⟩:∃ wl,wl=wn.alloc (.cells #[.int .i64 1,.string ⟨#[]⟩,.int .i64 0,.slice (some ⟨wm.heap.size,0,none⟩) 1 1,.int .i64 0] 71):=⟨_,rfl⟩
   have hbl:Below wn.heap.size wn wl:=by rw[Uz];exact (aG _ _).alloc (aF _) _
   have hsl:wl.heap.size=wm.heap.size+2:=by rw[Uz];simp;omega
   have HTB:Hid (wl.heap[wm.heap.size+1]?=some (.cells #[.int .i64 1,.string ⟨#[]⟩,.int .i64 0,.slice (some ⟨wm.heap.size,0,none⟩) 1 1,.int .i64 0] 71 (0,0))):=ae (by rw[Uz,←hsn];exact aH wn _)
   have ZH:Hid (wl.ownsRow wm.heap.size 71 5 (.slice (some ⟨wm.heap.size,0,none⟩) 1 1) 1 (ed [((.mk 2 s 0 [] 0:T),none,0)])):=ae ⟨rfl,.inr ⟨wm.heap.size,1,_,rfl,aF _,(hbl.block _ (by omega)).trans hnn,aF _,by decide,rfl,rfl⟩⟩
   have IQ:Below wm.heap.size wm wl:=hbn.trans (hbl.mono (by omega))
   have TZ:=ae (XE.o.trans (IQ.mono (by omega)))
   have DV:=ae ((IQ.block w.heap.size (by omega)).trans ZG.o)
   have HRL:=ae ((IQ.block (w.heap.size+1) (by omega)).trans Ux.o)
   have HWL:=ae (show wl=(wm.alloc (.cells #[.int .i64 2,.string s,.int .i64 0,.slice none 0 0,.int .i64 0] 71)).alloc (.cells #[.int .i64 1,.string ⟨#[]⟩,.int .i64 0,.slice (some ⟨wm.heap.size,0,none⟩) 1 1,.int .i64 0] 71) by rw[Uz,Uy])
   have HMK:=ae hk
   clear Uy hbn hnn Uz hbl IQ wn hsn hk h0 hl
   go_upto_region 11 with (fail)
   rw[←HWL.o]
   obtain⟨⟨k0,k1,k2,k3⟩,_,_,_,_⟩:=fQ DV.o
   go_wp2_with fail
   go_loopw [35] (fun i wr=>∃ (j:Nat)(ps:List TP)(v:Value),j≤ln∧ps.length=j+1∧i=.int .i64 j∧wr.heap[wm.heap.size+1]?=some (.cells #[.int .i64 1,.string ⟨#[]⟩,.int .i64 0,v,.int .i64 0] 71 (0,0)) ∧
    wr.ownsRow wm.heap.size 71 5 v (j+1) (ed ps)∧v.ownBlock≠some (wm.heap.size+1)∧Hid (∀ p∈ps,p.1.kids.length≤p.2.2∧mQ wr (fun k=>wl.heap.size≤k∧k<wr.heap.size∧v.ownBlock≠some k) p.2.1 p.1.kids)∧Below wm.heap.size wl wr∧Hid (ps.map Prod.fst=.mk 2 s 0 [] 0::(kV l).take j)) (fun i _=>ln-(intOf i).toNat)
   case atStart=>exact⟨0,[((.mk 2 s 0 [] 0:T),none,0)],_,aX _,rfl,rfl,HTB.o,ZH.o,by simp[Value.ownBlock],ae (rX s _ _),aG _ _,ae (by simp)⟩
   case round =>
    obtain⟨j,ps,v,hj,hpl,rfl,hbox,hown,hvt,hxk,hb,hzl⟩:=hrel
    have HO:=ae hown
    have HB:=ae hb
    have hs:=hb.size
    have lV:=ae hpl
    have jW:=ae hbox
    have HVT:=ae hvt
    have gZ:=ae (TZ.o.trans (hb.mono (by omega)))
    clear hown hpl hbox hvt hb
    by_cases hlt2:j<ln
    ·obtain⟨x,hx⟩:∃ x,l[j]?=some x:=⟨_,aO (by rw[←kC.o];exact hlt2)⟩
     obtain⟨b,o,A',c',rfl,IU,c0,c1,c2,c3,hKx⟩:=iZ.gy HK.o wr gZ.o j x hx
     have Dv:=HM.o x (aN hx) (HMK.o x (aN hx))
     have htk:Hid ((kV l).take (j+1)=(kV l).take j++[iy x]):=ae (DU hx)
     obtain⟨wx,iK⟩:∃ wx,wx=wr.alloc (.cells #[.int .i64 x.k,.string x.s,.int .i64 x.n,.slice A' x.kids.length c'] 38):=⟨_,rfl⟩
     have hbx:Below wr.heap.size wr wx:=by rw[iK];exact (aG _ _).alloc (aF _) _
     have hsx:wx.heap.size=wr.heap.size+1:=by rw[iK];simp
     have hnx:wx.heap[wr.heap.size]?=some (.cells #[.int .i64 x.k,.string x.s,.int .i64 x.n,.slice A' x.kids.length c'] 38 (0,0)):=by rw[iK];exact aH wr _
     have hbd:Below wr.heap.size wr wx.drew:=hbx.drew
     have lG:=ae (Dv A' c' wx.drew ((hKx.low hbd).more hbd.size))
     have HXB:=ae ((hbx.block (wm.heap.size+1) (by omega)).trans jW.o)
     have HOX:=ae (own_below HO.o hbx)
     have xO:=ae hbx
     have ni:=ae iK
     have BH:=ae hnx
     have agG:x.kids.length=x.kids.length:=rfl
     obtain⟨y,hy⟩:∃ y,y=iy x:=⟨_,rfl⟩
     rw[←hy] at lG htk
     clear iK hbx hnx hx hKx Dv hbd hy agG
     obtain⟨xk,xs,xn,xl⟩:=x
     obtain⟨tk,ts,tn,tl,ta⟩:=y
     simp only[E.val,E.k,E.s,E.n,E.kids,T.val,T.k,T.s,T.n,T.kids,T.at_] at c0 c1 c2 c3 lG ni BH
     generalize xl.length=xm at *
     obtain⟨⟨n0,n1,n2,n3⟩,_,_,_,_⟩:=fQ BH.o
     obtain⟨⟨k0,k1,k2,k3,k4⟩,f0,f1,f2,f3,f4⟩:=dN HXB.o
     go_upto_region 14 with (fail)
     rw[←ni.o]
     go_region_law (first
      | (refine step_append_lies _ rfl _ _ _ rfl wm.heap.size 71 i0 _ 5 64 Tryz.underlying69 hi hz0 hz1 hz2 rfl (by decide) _ _ _ rfl (Nj.o.alloc _) ⟨w3.heap.size,0,none⟩ 1 1 (TP.cs ((.mk tk ts tn tl ta:T),A3,c3')) rfl rfl (bz (aH w3 _)) (by rw[←fB];exact fF _) (by decide) (by unfold maxLen;omega) (by omega) (by simp;omega) _ rfl ?_;intro g cap w5 hown5 hgrow hat hlt
         have jq:=ae hown5
         have sW:Hid (w3.grownBy w5 v.ownBlock):=ae ((World.grownBy_alloc _ _ _).trans hgrow)
         have jP:Hid ((Value.slice (some ⟨g,0,none⟩) (j+1+1) cap).ownBlock=v.ownBlock∨∃ n,(Value.slice (some ⟨g,0,none⟩) (j+1+1) cap).ownBlock=some n∧w3.heap.size≤n):=ae (hat.imp (fun h=>h.symm) fun h=>⟨g,rfl,by rw[h];simp⟩)
         have NT:=ae ((sW.o.block (wm.heap.size+1) (by omega) (fun e=>HVT.o e.symm)).trans Ky.o)
         obtain⟨⟨p0,p1,p2,p3,p4⟩,q0,q1,q2,q3,q4⟩:=dN NT.o
         clear hown5 hgrow hat)
      | (go_simp;go_at_call 67;refine (lG.o).mono ?_;rintro e w3 ⟨⟨A3,c3',rfl,hc3,hX⟩,hb3⟩
         have nO:=ae hX
         have HB3:Hid (Below wr.heap.size wr w3):=ae ((xO.o.drew).trans (hb3.mono (by simp;omega)))
         have Nj:=ae (own_below HO.o HB3.o)
         have agH:wr.heap.size+1≤w3.heap.size:=by have:=hb3.size;simp at this;omega
         have Ky:=ae ((HB3.o.block (wm.heap.size+1) (by omega)).trans jW.o)
         have g3:w3.cell? ⟨wm.heap.size+1,3,none⟩=some v:=(dN Ky.o).1.2.2.2.1
         have Ua:(w3.alloc (.cells #[.int .i64 tk,.string ts,.int .i64 tn,.slice A3 tl.length c3',.int .i64 ta] 71)).cell? ⟨wm.heap.size+1,3,none⟩=some v:=(World.cell?_alloc_some _ _ _ (by rw[g3];rfl)).trans g3
         clear hX hb3))
     all_goals
      go_wp2_with fail
      go_roundw
      case measure=>simp[intOf];omega
      case rel =>
       have hs5:=sW.o.size
       have hgt:g≠wm.heap.size+1:=fun e=>by
        rcases jP.o with h|⟨n,h,h2⟩
        ·exact HVT.o (by rw[←h];simp[Value.ownBlock,e])
        ·have:n=g:=by simpa [Value.ownBlock] using h.symm
         omega
       have hother:∀ k,k≠wm.heap.size+1→k<w3.heap.size→v.ownBlock≠some k→(w5.setCell ⟨wm.heap.size+1,3,none⟩ (.slice (some ⟨g,0,none⟩) (j+1+1) cap)).heap[k]?=w3.heap[k]?:=fun k h1 h2 h3 =>
        (aI w5 ⟨wm.heap.size+1,3,none⟩ _ k h1).trans (sW.o.block k (by omega) fun e=>h3 e.symm)
       refine⟨j+1,ps++[((.mk tk ts tn tl ta:T),A3,c3')],.slice (some ⟨g,0,none⟩) (j+1+1) cap,by omega,by rw[aZ,lV.o];rfl,by go_num,nP (k:=3) NT.o,?_,by simpa [Value.ownBlock] using hgt,ae ?_,?_,ae ?_⟩
       ·rw[jv,fB]
        exact nK jq.o (aI w5 ⟨wm.heap.size+1,3,none⟩ _ g hgt)
       ·refine J3 hxk.o hc3 (nO.o.mono fun k hk=>⟨by have:=hk.1;simp at this;omega,hk.2⟩) (by omega) (fun k h1 h2 h3=>(hother k (by omega) (by omega) h3).trans (HB3.o.block k h2)) (fun k h1 h2=>hother k (by omega) (by omega) fun e=>by have:=(HO.o.lt _ e).2;omega) (by omega) ?_ (fun k e=>(HO.o.lt _ e).2) jP.o
        simp only[World.setCell,Array.size_modify]
        omega
       ·exact ((HB.o.trans (HB3.o.mono (by omega))).grown sW.o (by omega) (fun g hg=>by have:=(HO.o.lt g hg).1;omega)).setCell (p:=⟨wm.heap.size+1,3,none⟩) (by show wm.heap.size≤wm.heap.size+1;omega) _
       ·rw[htk.o,List.map_append,hzl.o];rfl
    ·obtain rfl:j=ln:=by omega
     have hps:ps.map Prod.fst=.mk 2 s 0 [] 0::kV l:=by rw[hzl.o,kC.o,←sV,List.take_length]
     have hO2:wr.ownsRow wm.heap.size 71 5 v ps.length (ed ps):=by rw[lV.o];exact HO.o
     obtain⟨A9,c9,rfl,IV,yu⟩:=rP hO2 (by rw[lV.o];omega) (S:=fun k=>w.heap.size+2≤k∧k<wr.heap.size) (fun g u1 u2=>⟨by omega,u2⟩) (fun p hp=>⟨(hxk.o p hp).1,(hxk.o p hp).2.mono (fun k hk=>⟨by have:=hk.1;omega,hk.2.1⟩)⟩)
     rw[hps] at IV yu jW
     have GI:=ae yu
     have HC9:=ae IV
     have G8:Hid (wr.heap[w.heap.size+1]?=some (.cells #[.int .i64 0,.string ⟨#[]⟩,.int .i64 0,.slice none 0 0,.int .i64 0] 71 (0,0))):=ae ((HB.o.block _ (by omega)).trans HRL.o)
     obtain⟨⟨k0,k1,k2,k3,k4⟩,f0,f1,f2,f3,f4⟩:=dN jW.o
     obtain⟨⟨q0,q1,q2,q3,q4⟩,e0,e1,e2,e3,e4⟩:=dN G8.o
     clear hO2 yu hxk hzl hps IV
     go_wp2_with fail
     refine aJ (jw rfl rfl (dR G8.o)) rfl ?_
     rw[IP.o,yY]
     refine⟨⟨A9,c9,rfl,HC9.o,?_⟩,dS gZ.o (aW _)⟩
     exact (GI.o.kept (fun k hk=>nS (by have:=hk.1;omega))).mono (fun k hk=>⟨by have:=hk.1;omega,aQ hk.2 rQ.symm⟩)
theorem Kz:∀ e,NS e:=E.ind (fun k s n l h=>Q8 k s n l h)
inductive Hr:T→Prop
 | atom (s:ByteArray)(a:Int)(h0:s.data.toList≠[])(h:∀ c∈s.data.toList,o9 c=true):Hr (.mk 2 s 0 [] a)
 | num (n a:Int)(h1:-9223372036854775808≤n)(h2:n≤9223372036854775807):Hr (.mk 3 ⟨#[]⟩ n [] a)
 | str (s:ByteArray)(a:Int)(h:s.size≤40):Hr (.mk 4 s 0 [] a)
 | node (l:List T)(a:Int)(h:∀ e∈l,Hr e):Hr (.mk 1 ⟨#[]⟩ 0 l a)
mutual
def vH:T→Nat|.mk k _ _ l _=>if k=1 then qV l+1 else 0
def qV:List T→Nat|[]=>0|x::l=>max (vH x) (qV l)
end
mutual
def era:T→T|.mk k s n l _=>.mk k s n (Eb l) 0
def Eb:List T→List T|[]=>[]|x::l=>era x::Eb l
end
theorem Ec (l:List T):Eb l=l.map era:=by
 induction l with
 | nil=>rw[Eb];rfl
 | cons x l ih=>rw[Eb,ih];rfl
theorem AA {k:Int} (h:k≠1)(s:ByteArray)(n:Int)(l:List T)(a:Int):vH (.mk k s n l a)=0:=by
 unfold vH
 rw[if_neg h]
theorem ba_eq (s:ByteArray):(⟨s.data.toList.toArray⟩:ByteArray)=s:=by
 apply ByteArray.ext
 simp
def Ag.cs (g:Ag):List Value:=[.string g.nm,.string g.fn,.string g.xH]
def jd (l:List Ag):List Value:=l.flatMap Ag.cs
theorem GV (l:List Ag):(jd l).length=l.length*3:=by
 induction l with
 | nil=>rfl
 | cons v l ih=>show ((Ag.cs v)++jd l).length=_;simp[ih,Ag.cs];omega
theorem yQ (a b:List Ag):jd (a++b)=jd a++jd b:=by simp[jd]
theorem Ap (v:Ag):jd [v]=Ag.cs v:=by simp[jd]
structure PA where
 ea:Option Addr
 ec:Nat
 ca:Option Addr
 cc:Nat
 la:Option Addr
 lc:Nat
 ra:Option Addr
 rc:Nat
 ga:Option Addr
 gc:Nat
 ka:Option Addr
 kc:Nat
def P.cs (p:P)(a:PA):List Value:=[.int .i64 p.k,.string p.nm,.slice a.ea p.ex.length a.ec,.slice a.ca p.cols.length a.cc,.slice a.la p.left.length a.lc,.slice a.ra p.right.length a.rc,.slice a.ga p.ag.length a.gc,.slice a.ka p.kids.length a.kc]
def P.val (p:P)(a:PA):Value:=.agg #[.int .i64 p.k,.string p.nm,.slice a.ea p.ex.length a.ec,.slice a.ca p.cols.length a.cc,.slice a.la p.left.length a.lc,.slice a.ra p.right.length a.rc,.slice a.ga p.ag.length a.gc,.slice a.ka p.kids.length a.kc]
structure nU (w:World)(S:Nat→Prop)(p:P)(a:PA):Prop where
 ex:jG w S a.ea p.ex
 cols:Lies w S a.ca (strs p.cols)
 left:Lies w S a.la (strs p.left)
 right:Lies w S a.ra (strs p.right)
 ag:Lies w S a.ga (jd p.ag)
 l1:p.ex.length≤9223372036854775807
 l2:p.cols.length≤9223372036854775807
 l3:p.left.length≤9223372036854775807∧p.left.length≤a.lc
 l4:p.right.length≤9223372036854775807∧p.right.length≤a.rc
 l5:p.ag.length≤9223372036854775807
theorem nU.kept {w w':World} {S:Nat→Prop} {p:P} {a:PA} (h:nU w S p a)(hw:∀ k,S k→w'.heap[k]?=w.heap[k]?):nU w' S p a :=
 ⟨h.ex.kept hw,h.cols.kept hw,h.left.kept hw,h.right.kept hw,h.ag.kept hw,h.l1,h.l2,h.l3,h.l4,h.l5⟩
theorem nU.mono {w:World} {S S':Nat→Prop} {p:P} {a:PA} (h:nU w S p a)(hS:∀ k,S k→S' k):nU w S' p a :=
 ⟨h.ex.mono hS,h.cols.mono hS,h.left.mono hS,h.right.mono hS,h.ag.mono hS,h.l1,h.l2,h.l3,h.l4,h.l5⟩
inductive CE (w:World)(S:Nat→Prop):Option Addr→List P→Prop
 | nil (A:Option Addr):CE w S A []
 | mk (b off:Nat)(l:List P)(hn:l.length≤9223372036854775807)(hb:S b)(F:Nat→PA)
    (h:∀ i p,l[i]?=some p→∀ j u,(p.cs (F i))[j]?=some u→w.cell? ⟨b,off+i*8+j,none⟩=some u)
    (hp:∀ i p,l[i]?=some p→nU w S p (F i))
    (hk:∀ i p,l[i]?=some p→CE w S (F i).ka p.kids):CE w S (some ⟨b,off,none⟩) l
theorem CE.kept {w w':World} {S:Nat→Prop} {A:Option Addr} {l:List P} (h:CE w S A l)(hw:∀ k,S k→w'.heap[k]?=w.heap[k]?):CE w' S A l:=by
 induction h with
 | nil A=>exact .nil A
 | mk b off l hn hlt F h hp hk ih =>
   exact .mk b off l hn hlt F (fun i p hi j u hj=>(aT (hw b hlt)).trans (h i p hi j u hj)) (fun i p hi=>(hp i p hi).kept hw) (fun i p hi=>ih i p hi)
theorem CE.mono {w:World} {S S':Nat→Prop} {A:Option Addr} {l:List P} (h:CE w S A l)(hS:∀ k,S k→S' k):CE w S' A l:=by
 induction h with
 | nil A=>exact .nil A
 | mk b off l hn hlt F h hp hk ih=>exact .mk b off l hn (hS b hlt) F h (fun i p hi=>(hp i p hi).mono hS) (fun i p hi=>ih i p hi)
theorem CE.len {w:World} {S:Nat→Prop} {A:Option Addr} {l:List P} (h:CE w S A l):l.length≤9223372036854775807:=by
 cases h with
 | nil A=>simp
 | mk b off l hn hlt F h hp hk=>exact hn
structure kY (w:World)(S:Nat→Prop)(p:P)(a:PA):Prop where
 parts:nU w S p a
 kids:CE w S a.ka p.kids
theorem kY.kept {w w':World} {S:Nat→Prop} {p:P} {a:PA} (h:kY w S p a)(hw:∀ k,S k→w'.heap[k]?=w.heap[k]?):kY w' S p a:=⟨h.parts.kept hw,h.kids.kept hw⟩
theorem kY.mono {w:World} {S S':Nat→Prop} {p:P} {a:PA} (h:kY w S p a)(hS:∀ k,S k→S' k):kY w S' p a:=⟨h.parts.mono hS,h.kids.mono hS⟩
theorem CE.at {w:World} {S:Nat→Prop} {A:Option Addr} {l:List P} (h:CE w S A l) {i:Nat} {p:P} (hx:l[i]?=some p) :
 ∃ b o a,A=some ⟨b,o,none⟩∧S b∧(∀ j u,(p.cs a)[j]?=some u→w.cell? ⟨b,o+i*8+j,none⟩=some u)∧kY w S p a:=by
 cases h with
 | nil A=>simp at hx
 | mk b off l hn hlt F h hp hk=>exact⟨b,off,F i,rfl,hlt,h i p hx,hp i p hx,hk i p hx⟩
abbrev QP:=P×PA
def QP.cs (x:QP):List Value:=x.1.cs x.2
def nI (l:List QP):List Value:=l.flatMap QP.cs
theorem Aq (v:QP):nI [v]=QP.cs v:=by simp[nI]
theorem yR (a b:List QP):nI (a++b)=nI a++nI b:=by simp[nI]
theorem Q3 (l:List QP):∀ (i:Nat)(v:QP),l[i]?=some v→∀ j u,(QP.cs v)[j]?=some u→(nI l)[i*8+j]?=some u:=by
 induction l with
 | nil=>intro i v h;simp at h
 | cons x l ih =>
   intro i v h j u hj
   have e:nI (x::l)=QP.cs x++nI l:=rfl
   have hl:∀ y:QP,(QP.cs y).length=8:=fun _=>rfl
   have hj8:j<8:=by have:=(aV.1 hj).1;rw[hl] at this;exact this
   rw[e]
   cases i with
   | zero =>
     obtain rfl:x=v:=by simpa using h
     rw[Nat.zero_mul,Nat.zero_add,List.getElem?_append_left (by rw[hl];exact hj8)]
     exact hj
   | succ i =>
     rw[bK (by rw[hl];omega),hl,show (i+1)*8+j-8=i*8+j by omega]
     exact ih i v (by simpa using h) j u hj
theorem NQ (l:List QP):∀ u∈nI l,u.oneCell'=true:=by
 intro u hu
 obtain⟨v,_,hv⟩:=List.mem_flatMap.1 hu
 simp only[QP.cs,P.cs,bZ,bI,or_false] at hv
 rcases hv with rfl|rfl|rfl|rfl|rfl|rfl|rfl|rfl <;> rfl
theorem GX {w:World} {base:Nat} {e:TypeId} {v:Value} {l:List QP} (h:w.ownsRow base e 8 v l.length (nI l))(hn:l.length≤9223372036854775807) {S:Nat→Prop} (hS:∀ g,base≤g→g<w.heap.size→S g)(hk:∀ x∈l,kY w S x.1 x.2) :
 ∃ A c,v=.slice A (l.map Prod.fst).length c∧(l.map Prod.fst).length≤c∧CE w S A (l.map Prod.fst):=by
 obtain⟨_,hcase⟩:=id h
 rcases hcase with⟨rfl,h0⟩|⟨g,cap,cur,rfl,hg,hh,hc,hcap,hsz,htake⟩
 ·have e0:l=[]:=bF h0
  subst e0
  exact⟨none,0,rfl,aF _,.nil _⟩
 ·have hget:∀ i x,(l.map Prod.fst)[i]?=some x→∃ y:QP,l[i]?=some y∧y.1=x:=fun i x hx=>by
   rw[bP] at hx
   cases hl:l[i]? with
   | none=>rw[hl] at hx;cases hx
   | some y=>rw[hl] at hx;exact⟨y,hl,by simpa using hx⟩
  refine⟨some ⟨g,0,none⟩,cap,by rw[bM],by rw[bM];exact hc,.mk g 0 _ (by rw[bM];exact hn) ?_ (fun i=>((l[i]?).map Prod.snd).getD ⟨none,0,none,0,none,0,none,0,none,0,none,0⟩) (fun i x hx j u hj=>?_) (fun i x hx=>?_) (fun i x hx=>?_)⟩
  ·refine hS g hg ?_
   rcases Nat.lt_or_ge g w.heap.size with hlt|hge
   ·exact hlt
   ·rw[Array.getElem?_eq_none hge] at hh;cases hh
  ·obtain⟨y,hl,rfl⟩:=hget i x hx
   rw[hl] at hj
   have hi:i<l.length:=(aV.1 hl).1
   have hj8:j<8:=by have:=(aV.1 hj).1;exact this
   rw[Nat.zero_add,h.cellAt _ (by omega)]
   exact Q3 l i y hl j u hj
  ·obtain⟨y,hl,rfl⟩:=hget i x hx
   simp only[hl,Option.map_some,Option.getD_some]
   exact (hk y (aN hl)).parts
  ·obtain⟨y,hl,rfl⟩:=hget i x hx
   simp only[hl,Option.map_some,Option.getD_some]
   exact (hk y (aN hl)).kids
theorem Ko {wr w3 w6:World} {v v':Value} {base:Nat} {ps:List QP} {x:QP}
 (hxk:∀ p∈ps,kY wr (fun k=>base≤k∧k<wr.heap.size∧v.ownBlock≠some k) p.1 p.2)
 (hx:kY w3 (fun k=>wr.heap.size≤k∧k<w3.heap.size) x.1 x.2)(hbase:base≤wr.heap.size)
 (h1:∀ k,base≤k→k<wr.heap.size→v.ownBlock≠some k→w6.heap[k]?=wr.heap[k]?)(h2:∀ k,wr.heap.size≤k→k<w3.heap.size→w6.heap[k]?=w3.heap[k]?)
 (hs:wr.heap.size≤w3.heap.size)(hs6:w3.heap.size≤w6.heap.size)(hv1:∀ k,v.ownBlock=some k→k<wr.heap.size)(hv:v'.ownBlock=v.ownBlock∨∃ n,v'.ownBlock=some n∧w3.heap.size≤n) :
 ∀ p∈ps++[x],kY w6 (fun k=>base≤k∧k<w6.heap.size∧v'.ownBlock≠some k) p.1 p.2:=by
 intro p hp
 rcases cu.1 hp with hp|hp
 ·refine ((hxk p hp).kept fun k hk=>h1 k hk.1 hk.2.1 hk.2.2).mono fun k hk=>⟨hk.1,by have:=hk.2.1;omega,?_⟩
  rcases hv with hv|⟨n,hv,hn⟩
  ·rw[hv];exact hk.2.2
  ·rw[hv];intro e;have:=aY e;have:=hk.2.1;omega
 ·obtain rfl:p=x:=by simpa using hp
  refine (hx.kept fun k hk=>h2 k hk.1 hk.2).mono fun k hk=>⟨by have:=hk.1;omega,by have:=hk.2;omega,?_⟩
  rcases hv with hv|⟨n,hv,hn⟩
  ·rw[hv];intro e;have:=hv1 k e;have:=hk.1;omega
  ·rw[hv];intro e;have:=aY e;have:=hk.2;omega
theorem jm {w:World} {g k:Nat} {cs:Array Value} {u:Value} {t:TypeId} (h:w.heap[g]?=some (.cells cs t (0,0))):(w.setCell ⟨g,k,none⟩ u).heap[g]?=some (.cells (cs.set! k u) t (0,0)):=by
 show (w.heap.modify g _)[g]?=_
 rw[Array.getElem?_modify]
 simp[h]
def uY (w:World)(p:Nat)(x0 x1 x2 x3 x4 x5 x6 x7:Value):World:=(((((((w.setCell ⟨p,0,none⟩ x0).setCell ⟨p,1,none⟩ x1).setCell ⟨p,2,none⟩ x2).setCell ⟨p,3,none⟩ x3).setCell ⟨p,4,none⟩ x4).setCell ⟨p,5,none⟩ x5).setCell ⟨p,6,none⟩ x6).setCell ⟨p,7,none⟩ x7
theorem gV {w:World} {p:Nat} {a b c d e f g h x0 x1 x2 x3 x4 x5 x6 x7:Value} {t:TypeId} (hb:w.heap[p]?=some (.cells #[a,b,c,d,e,f,g,h] t (0,0))):(uY w p x0 x1 x2 x3 x4 x5 x6 x7).heap[p]?=some (.cells #[x0,x1,x2,x3,x4,x5,x6,x7] t (0,0)):=by
 have h0:(w.setCell ⟨p,0,none⟩ x0).heap[p]?=some (.cells #[x0,b,c,d,e,f,g,h] t (0,0)):=by simpa using jm (k:=0) (u:=x0) hb
 have h1:((w.setCell ⟨p,0,none⟩ x0).setCell ⟨p,1,none⟩ x1).heap[p]?=some (.cells #[x0,x1,c,d,e,f,g,h] t (0,0)):=by simpa using jm (k:=1) (u:=x1) h0
 have h2:(((w.setCell ⟨p,0,none⟩ x0).setCell ⟨p,1,none⟩ x1).setCell ⟨p,2,none⟩ x2).heap[p]?=some (.cells #[x0,x1,x2,d,e,f,g,h] t (0,0)):=by simpa using jm (k:=2) (u:=x2) h1
 have h3:((((w.setCell ⟨p,0,none⟩ x0).setCell ⟨p,1,none⟩ x1).setCell ⟨p,2,none⟩ x2).setCell ⟨p,3,none⟩ x3).heap[p]?=some (.cells #[x0,x1,x2,x3,e,f,g,h] t (0,0)):=by simpa using jm (k:=3) (u:=x3) h2
 have h4:(((((w.setCell ⟨p,0,none⟩ x0).setCell ⟨p,1,none⟩ x1).setCell ⟨p,2,none⟩ x2).setCell ⟨p,3,none⟩ x3).setCell ⟨p,4,none⟩ x4).heap[p]?=some (.cells #[x0,x1,x2,x3,x4,f,g,h] t (0,0)):=by simpa using jm (k:=4) (u:=x4) h3
 have h5:((((((w.setCell ⟨p,0,none⟩ x0).setCell ⟨p,1,none⟩ x1).setCell ⟨p,2,none⟩ x2).setCell ⟨p,3,none⟩ x3).setCell ⟨p,4,none⟩ x4).setCell ⟨p,5,none⟩ x5).heap[p]?=some (.cells #[x0,x1,x2,x3,x4,x5,g,h] t (0,0)):=by simpa using jm (k:=5) (u:=x5) h4
 have h6:(((((((w.setCell ⟨p,0,none⟩ x0).setCell ⟨p,1,none⟩ x1).setCell ⟨p,2,none⟩ x2).setCell ⟨p,3,none⟩ x3).setCell ⟨p,4,none⟩ x4).setCell ⟨p,5,none⟩ x5).setCell ⟨p,6,none⟩ x6).heap[p]?=some (.cells #[x0,x1,x2,x3,x4,x5,x6,h] t (0,0)):=by simpa using jm (k:=6) (u:=x6) h5
 have h7:((((((((w.setCell ⟨p,0,none⟩ x0).setCell ⟨p,1,none⟩ x1).setCell ⟨p,2,none⟩ x2).setCell ⟨p,3,none⟩ x3).setCell ⟨p,4,none⟩ x4).setCell ⟨p,5,none⟩ x5).setCell ⟨p,6,none⟩ x6).setCell ⟨p,7,none⟩ x7).heap[p]?=some (.cells #[x0,x1,x2,x3,x4,x5,x6,x7] t (0,0)):=by simpa using jm (k:=7) (u:=x7) h6
 exact h7
theorem jH {w:World} {p k:Nat} {x0 x1 x2 x3 x4 x5 x6 x7:Value} (h:k≠p):(uY w p x0 x1 x2 x3 x4 x5 x6 x7).heap[k]?=w.heap[k]?:=by
 simp only[uY,World.setCell,Array.getElem?_modify]
 rw[if_neg (by omega),if_neg (by omega),if_neg (by omega),if_neg (by omega),if_neg (by omega),if_neg (by omega),if_neg (by omega),if_neg (by omega)]
theorem mV {w:World} {p:Nat} {x0 x1 x2 x3 x4 x5 x6 x7:Value}:(uY w p x0 x1 x2 x3 x4 x5 x6 x7).heap.size=w.heap.size:=by simp[uY,World.setCell]
theorem Ar {w w':World} {g p:Nat} {x0 x1 x2 x3 x4 x5 x6 x7:Value} (h:Only g w w')(hp:w.heap.size≤p):Only g w (uY w' p x0 x1 x2 x3 x4 x5 x6 x7) :=
 (((((((h.dQ (p:=⟨p,0,none⟩) hp x0).dQ (p:=⟨p,1,none⟩) hp x1).dQ (p:=⟨p,2,none⟩) hp x2).dQ (p:=⟨p,3,none⟩) hp x3).dQ (p:=⟨p,4,none⟩) hp x4).dQ (p:=⟨p,5,none⟩) hp x5).dQ (p:=⟨p,6,none⟩) hp x6).dQ (p:=⟨p,7,none⟩) hp x7
theorem iq {w a:World} {B p:Nat} {x0 x1 x2 x3 x4 x5 x6 x7:Value} (h:Below B a w)(hp:B≤p):Below B a (uY w p x0 x1 x2 x3 x4 x5 x6 x7) :=
 (((((((h.setCell (p:=⟨p,0,none⟩) hp x0).setCell (p:=⟨p,1,none⟩) hp x1).setCell (p:=⟨p,2,none⟩) hp x2).setCell (p:=⟨p,3,none⟩) hp x3).setCell (p:=⟨p,4,none⟩) hp x4).setCell (p:=⟨p,5,none⟩) hp x5).setCell (p:=⟨p,6,none⟩) hp x6).setCell (p:=⟨p,7,none⟩) hp x7
structure C8 (w:World)(g:Nat)(x0 x1 x2 x3 x4 x5 x6 x7:Value):Prop where
 c0:w.cell? ⟨g,0,none⟩=some x0
 c1:w.cell? ⟨g,1,none⟩=some x1
 c2:w.cell? ⟨g,2,none⟩=some x2
 c3:w.cell? ⟨g,3,none⟩=some x3
 c4:w.cell? ⟨g,4,none⟩=some x4
 c5:w.cell? ⟨g,5,none⟩=some x5
 c6:w.cell? ⟨g,6,none⟩=some x6
 c7:w.cell? ⟨g,7,none⟩=some x7
 f0:w.frozen? ⟨g,0,none⟩=false
 f1:w.frozen? ⟨g,1,none⟩=false
 f2:w.frozen? ⟨g,2,none⟩=false
 f3:w.frozen? ⟨g,3,none⟩=false
 f4:w.frozen? ⟨g,4,none⟩=false
 f5:w.frozen? ⟨g,5,none⟩=false
 f6:w.frozen? ⟨g,6,none⟩=false
 f7:w.frozen? ⟨g,7,none⟩=false
theorem dO {w:World} {g:Nat} {x0 x1 x2 x3 x4 x5 x6 x7:Value} {t:TypeId} (h:w.heap[g]?=some (.cells #[x0,x1,x2,x3,x4,x5,x6,x7] t (0,0))):C8 w g x0 x1 x2 x3 x4 x5 x6 x7:=by
 constructor <;> simp[World.cell?,World.frozen?,h]
theorem pz {fn:Func} {p:Tmp} (h:fn.results=#[.cell p 27]) {tmps:Array Value} {w:World} {g:Nat} {x0 x1 x2 x3 x4 x5 x6 x7:Value} {t:TypeId}
 (hp:tmps.getD p undef=.pointer (some ⟨g,0,none⟩))(hg:w.heap[g]?=some (.cells #[x0,x1,x2,x3,x4,x5,x6,x7] t (0,0))):(results fn tmps).run Tryz.prog w=.ok (.agg #[x0,x1,x2,x3,x4,x5,x6,x7]) w:=by
 have hp':tmps[p]?.getD undef=.pointer (some ⟨g,0,none⟩):=by simpa using hp
 have hl:=run_loadVar_row (P:=Tryz.prog) w g t 27 #[x0,x1,x2,x3,x4,x5,x6,x7] (0,0) _ hg Tryz.underlying27 rfl (by show _=some 8;kernel_rfl)
 simp[results,h,hp',asAddr,hl]
theorem GY:(Tryz.prog.info? 27).map (fun i=>(i.zero,i.size,i.bytes))=some (some (.agg #[.int .i64 0,.string ByteArray.empty,.slice none 0 0,.slice none 0 0,.slice none 0 0,.slice none 0 0,.slice none 0 0,.slice none 0 0]),8,168):=by kernel_rfl
theorem zo {e:Int} (he:e≠0)(x:Int)(s:jL):(yH e x s).1≠0:=by
 unfold yH
 split
 ·exact he
 ·assumption
theorem oJ {t:T} {s:jL} (h:(jl t s).1=0):jl t s=s∧nameB t.s=true:=by
 unfold jl at h ⊢
 split at h
 ·rename_i hn
  rw[if_pos hn]
  exact⟨rfl,hn⟩
 ·exact absurd h (zo (by decide) _ _)
theorem zq {t:T} {s:jL} (h:(qo t s).1=0):qo t s=s∧(dX t).2.1=0:=by
 unfold qo at h ⊢
 split at h
 ·rename_i hn
  rw[if_pos hn]
  exact⟨rfl,hn⟩
 ·rename_i hn
  exact absurd h (zo hn _ _)
theorem wP (f:T→jL→jL)(Q:T→Prop)(hf:∀ (s:jL)(t:T),(f t s).1=0→f t s=s∧Q t):∀ (l:List T)(s:jL),(l.foldl (fun s t=>f t s) s).1=0→l.foldl (fun s t=>f t s) s=s∧∀ t∈l,Q t
 | [],s,h=>⟨rfl,fun t ht=>by cases ht⟩
 | x::l,s,h=>by
   rw[List.foldl_cons] at h ⊢
   obtain⟨h1,h2⟩:=wP f Q hf l _ h
   rw[h1] at h ⊢
   obtain⟨g1,g2⟩:=hf s x h
   refine⟨g1,fun t ht=>?_⟩
   rcases bZ.1 ht with rfl|ht
   ·exact g2
   ·exact h2 t ht
theorem AB {l:List T} {s:jL} (h:(jc l s).1=0):jc l s=s:=(wP jl (fun _=>True) (fun s t h=>⟨(oJ h).1,trivial⟩) l s h).1
theorem KN {l:List T} {s:jL} (h:(qP l s).1=0):qP l s=s∧qO l=true:=by
 unfold qP at h ⊢
 split at h
 ·rename_i hn
  rw[if_pos hn]
  exact⟨(oJ h).1,hn⟩
 ·exact absurd h (zo (by decide) _ _)
theorem Qj {l:List T} {s:jL} (h:(rV l s).1=0):rV l s=s∧qO l=true:=by
 unfold rV at h ⊢
 split at h
 ·rename_i hn
  rw[if_pos hn]
  have h1:=(oJ h).1
  rw[h1] at h ⊢
  exact KN h
 ·rename_i hn
  rw[if_neg hn]
  exact KN h
theorem Qk {t:T} {s:jL} (h:(Ak t s).1=0):Ak t s=s∧(dX (t.kids.getD 1 dW)).2.1=0:=by
 unfold Ak at h ⊢
 obtain⟨h1,h2⟩:=zq h
 rw[h1] at h ⊢
 exact⟨(oJ h).1,h2⟩
theorem Ed {kd:Int} {l:List T} {x:Int} {s:jL} (h:(iR kd l x s).1=0):iR kd l x s=s∧(kd=2→(dX (l.getD 1 dW)).2.1=0)∧(kd=3→∀ t∈fV l 1,(dX (t.kids.getD 1 dW)).2.1=0) ∧
 (kd=7→∀ t∈fV l 2,qO t.kids=true)∧(1≤kd∧kd≤7):=by
 unfold iR at h ⊢
 split at h
 ·rename_i e
  subst e
  exact⟨(oJ h).1,fun e=>by omega,fun e=>by omega,fun e=>by omega,by omega⟩
 ·split at h
  ·rename_i _ e
   subst e
   exact⟨(zq h).1,fun _=>(zq h).2,fun e=>by omega,fun e=>by omega,by omega⟩
  ·split at h
   ·rename_i _ _ e
    subst e
    have:=wP Ak (fun t=>(dX (t.kids.getD 1 dW)).2.1=0) (fun s t h=>Qk h) _ _ h
    exact⟨this.1,fun e=>by omega,fun _=>this.2,fun e=>by omega,by omega⟩
   ·split at h
    ·rename_i _ _ _ e
     subst e
     have h1:=AB h
     rw[h1] at h ⊢
     exact⟨AB h,fun e=>by omega,fun e=>by omega,fun e=>by omega,by omega⟩
    ·split at h
     ·rename_i _ _ _ _ e
      subst e
      exact⟨rfl,fun e=>by omega,fun e=>by omega,fun e=>by omega,by omega⟩
     ·split at h
      ·rename_i _ _ _ _ _ e
       subst e
       exact⟨rfl,fun e=>by omega,fun e=>by omega,fun e=>by omega,by omega⟩
      ·split at h
       ·rename_i _ _ _ _ _ _ e
        subst e
        have:=wP (fun t s=>rV t.kids s) (fun t=>qO t.kids=true) (fun s t h=>Qj h) _ _ h
        have h1:oW (fV l 2) (jc (l.getD 1 dW).kids s)=jc (l.getD 1 dW).kids s:=this.1
        rw[h1] at h ⊢
        exact⟨AB h,fun e=>by omega,fun e=>by omega,fun _=>this.2,by omega⟩
       ·exact absurd h (zo (by decide) _ _)
def gz (s:ByteArray):T:=.mk 2 s 0 [] 0
def jM (l:List T):T:=.mk 1 ⟨#[]⟩ 0 l 0
def iO (l:List ByteArray):T:=jM (l.map gz)
def qW (k:Int):List UInt8:=if k=1 then mi else if k=2 then kT else if k=3 then jR else if k=4 then oV else if k=5 then nG else if k=6 then jh else kZ
def uH (g:Ag):List ByteArray:=if g.fn.toList=ig then [g.nm,g.fn] else [g.nm,g.fn,g.xH]
def KO (c:ByteArray)(e:E):T:=jM [gz c,iy e]
def rZ (cols:List ByteArray)(ex:List E):List T:=List.zipWith KO cols ex
def mF (k:Int)(nm:ByteArray)(ex:List E)(cols left right:List ByteArray)(ag:List Ag):List T :=
 if k=1 then [gz nm] else if k=2 then ex.map iy else if k=3 then rZ cols ex else if k=4 then [iO left,iO right] else if k=7 then iO left::ag.map (fun g=>iO (uH g)) else []
mutual
def fD:P→T
 | .mk k nm ex cols left right ag kids=>if k<1∨7<k then dW else jM (gz ⟨(qW k).toArray⟩::(mF k nm ex cols left right ag++kK kids))
def kK:List P→List T
 | []=>[]
 | x::l=>fD x::kK l
end
theorem tJ (l:List P):kK l=l.map fD:=by
 induction l with
 | nil=>rw[kK];rfl
 | cons x l ih=>rw[kK,ih];rfl
inductive BN:P→Prop
 | mk (k:Int)(nm:ByteArray)(ex:List E)(cols left right:List ByteArray)(ag:List Ag)(kids:List P)(h1:1≤k)(h7:k≤7)(hex:∀ e∈ex,qC e)(hc:cols.length≤ex.length)(hk:∀ p∈kids,BN p):BN (.mk k nm ex cols left right ag kids)
theorem zt (w:List UInt8)(l:List T):gJ w l=0∨(gJ w l=1∧w=mi∧l.length=2∧(l.getD 1 dW).k=2)∨(gJ w l=2∧w=kT∧l.length=3)∨(gJ w l=3∧w=jR∧3≤l.length∧(fV l 1).all fE=true) ∨
 (gJ w l=4∧w=oV∧l.length=5∧jy (l.getD 1 dW)=true∧jy (l.getD 2 dW)=true)∨(gJ w l=5∧w=nG∧l.length=3)∨(gJ w l=6∧w=jh∧l.length=2)∨(gJ w l=7∧w=kZ∧3≤l.length∧jy (l.getD 1 dW)=true∧(fV l 2).all kG=true):=by
 unfold gJ
 generalize l.getD 1 dW=x1
 generalize l.getD 2 dW=x2
 repeat' split
 all_goals simp_all
theorem Ht (l:List T):xN l=l.map ja:=by
 induction l with
 | nil=>rw[xN];rfl
 | cons x l ih=>rw[xN,ih];rfl
theorem vI {t:T} (h:t.k=2):ja t=gz t.s:=by
 obtain⟨k,s,n,l,a⟩:=t
 simp only[T.k] at h
 unfold ja
 rw[if_pos h]
 rfl
theorem zu {t:T} (h:t.k=1):ja t=jM (t.kids.map ja):=by
 obtain⟨k,s,n,l,a⟩:=t
 simp only[T.k] at h
 subst h
 unfold ja
 rw[if_neg (by decide),if_neg (by decide),if_neg (by decide),Ht]
 rfl
theorem wQ {t:T} (h:jy t=true):ja t=iO (t.kids.map T.s):=by
 unfold jy at h
 simp at h
 rw[zu h.1,iO,List.map_map]
 congr 1
 refine List.map_congr_left fun x hx=>?_
 exact vI (h.2 x hx)
theorem Ol {t:T} (h:fE t=true)(hr:(dX (t.kids.getD 1 dW)).2.1=0):ja t=KO (t.kids.getD 0 dW).s (dX (t.kids.getD 1 dW)).1:=by
 unfold fE at h
 simp at h
 obtain⟨h1,h2,h3⟩:=h
 rw[zu h1,KO,(vz _ hr).1]
 match hk:t.kids,h2 with
 | [x,y],_ =>
   rw[hk] at h3
   simp only[DJ] at h3
   simp[vI h3]
theorem I8 {t:T} (h:kG t=true):jy t=true∧(t.kids.length=2∨t.kids.length=3):=by
 unfold kG at h
 simp at h
 exact h
theorem XR {t:T} (h:kG t=true)(hr:qO t.kids=true):ja t=iO (uH (qp t.kids)):=by
 obtain⟨h1,h2⟩:=I8 h
 rw[wQ h1]
 congr 1
 generalize t.kids=l at *
 unfold qO at hr
 rcases h2 with h2|h2
 ·match l,h2 with
  | [x,y],_ =>
    rw[if_pos (show [x,y].length=2 from rfl)] at hr
    have e:y.s.toList=ig:=by simpa using hr
    unfold uH qp
    simp[e]
 ·match l,h2 with
  | [x,y,z],_ =>
    rw[if_neg (by simp)] at hr
    have e:y.s.toList≠ig:=by
     intro e
     simp at hr
     rw[e] at hr
     revert hr
     decide
    unfold uH qp
    simp[e]
def KP (t:T):Prop:=∀ s:jL,(fU t s).2.1=0→(fU t s).2=s∧fD (fU t s).1=ja t∧BN (fU t s).1
theorem nX:∀ (l:List T),(∀ t∈l,KP t)→∀ s:jL,(gu l 0 s).2.1=0→(gu l 0 s).2=s∧kK (gu l 0 s).1=l.map ja∧∀ p∈(gu l 0 s).1,BN p
 | [],_,s,h=>by
   rw[gu]
   exact⟨rfl,by rw[kK];rfl,fun p hp=>by cases hp⟩
 | x::l,hx,s,h=>by
   rw[gu] at h ⊢
   simp only at h ⊢
   obtain⟨h1,h2,h3⟩:=nX l (fun t ht=>hx t (bG _ ht)) _ h
   rw[h1] at h ⊢
   obtain⟨g1,g2,g3⟩:=hx x bH s h
   refine⟨g1,by rw[kK,g2,h2];rfl,fun p hp=>?_⟩
   rcases bZ.1 hp with rfl|hp
   ·exact g3
   ·exact h3 p hp
theorem Om (k:Int)(x:T)(l:List T):uy k (x::l)=if k=1∧x.k=2 then x.s else ⟨#[]⟩:=rfl
theorem Hu {t:T} {w:List UInt8} (h:(lh t).toList=w)(hw:w≠[]):t.k=1∧∃ x l,t.kids=x::l∧ja x=gz ⟨w.toArray⟩:=by
 obtain⟨k,s,n,l,a⟩:=t
 change (uy k l).toList=w at h
 show k=1∧∃ x r,l=x::r∧_
 cases l with
 | nil=>exact absurd h.symm (by simpa [uy] using hw)
 | cons x l =>
   rw[Om] at h
   by_cases hx:k=1∧x.k=2
   ·rw[if_pos hx] at h
    refine⟨hx.1,x,l,rfl,?_⟩
    rw[vI hx.2]
    congr 1
    apply ByteArray.ext
    apply Array.ext'
    rw[←h]
    simp[ByteArray.toList_eq]
   ·rw[if_neg hx] at h
    exact absurd h.symm (by simpa using hw)
theorem mX:∀ t:T,KP t:=T.ind fun k s n l a ih=>by
 intro st h
 rw[fU] at h ⊢
 simp only at h ⊢
 have hall:=zt (lh (.mk k s n l a)).toList l
 rw[show gJ (lh (.mk k s n l a)).toList l=jK (.mk k s n l a) from rfl] at hall
 generalize jK (.mk k s n l a)=kd at *
 rw[lq] at h ⊢
 obtain⟨h1,h2,h3⟩:=nX (l.drop (l.length-dY kd)) (fun t ht=>ih t (List.mem_of_mem_drop ht)) _ h
 rw[h1] at h ⊢
 obtain⟨b1,b2,b3,b4,b5,b6⟩:=Ed h
 rw[b1] at h2 h3 ⊢
 generalize (gu (l.drop (l.length-dY kd)) 0 st).1=ks at *
 refine⟨rfl,?_,?_⟩
 ·have key:∀ (w:List UInt8),(lh (.mk k s n l a)).toList=w→w=qW kd→w≠[]→∀ (nm:ByteArray)(ex:List E)(cols left right:List ByteArray)(ag:List Ag)(kk:List P),eU kd l=.mk kd nm ex cols left right ag kk →
   (∀ x r,l=x::r→mF kd nm ex cols left right ag=(r.take (l.length-dY kd-1)).map ja)→dY kd<l.length→fD ((eU kd l).put ks)=ja (.mk k s n l a):=by
   intro w hw1 hw2 hw0 nm ex cols left right ag kk hb hm hlt
   obtain⟨hk1,x,r,hl,hx⟩:=Hu hw1 hw0
   simp only[T.k,T.kids] at hk1 hl
   rw[zu (t:=.mk k s n l a) hk1,hb]
   simp only[P.put,P.k,P.nm,P.ex,P.cols,P.left,P.right,P.ag,T.kids]
   rw[fD,if_neg (by omega),hm x r hl,h2,←hw2,←hx]
   congr 1
   have e:l.length-dY kd=(l.length-dY kd-1)+1:=by omega
   rw[e,hl,List.drop_succ_cons,List.map_cons,←List.map_append]
   simp
  rcases hall with e|⟨e,hw,hl,ha⟩|⟨e,hw,hl⟩|⟨e,hw,hl,ha⟩|⟨e,hw,hl,ha,hb⟩|⟨e,hw,hl⟩|⟨e,hw,hl⟩|⟨e,hw,hl,ha,hb⟩
  ·omega
  ·subst e
   refine key _ hw rfl (by decide) _ _ _ _ _ _ _ (by unfold eU;rw[if_pos rfl]) (fun x r hx=>?_) (by rw[show dY 1=0 from rfl];omega)
   subst hx
   match r,hl with
   | [y],_ =>
     simp at ha
     simp[mF,dY,vI ha]
  ·subst e
   refine key _ hw rfl (by decide) _ _ _ _ _ _ _ (by unfold eU;rw[if_neg (by decide),if_pos rfl]) (fun x r hx=>?_) (by rw[show dY 2=1 from rfl];omega)
   subst hx
   match r,hl with
   | [y,z],_ =>
     have:=(vz _ (b2 rfl)).1
     simp at this
     simp[mF,dY,this]
  ·subst e
   refine key _ hw rfl (by decide) _ _ _ _ _ _ _ (by unfold eU;rw[if_neg (by decide),if_neg (by decide),if_pos rfl]) (fun x r hx=>?_) (by rw[show dY 3=1 from rfl];omega)
   subst hx
   have hm:fV (x::r) 1=r.take ((x::r).length-dY 3-1):=by
    unfold fV
    rw[List.drop_succ_cons,List.drop_zero]
    rfl
   rw[←hm]
   have b3':=b3 rfl
   generalize fV (x::r) 1=ml at *
   unfold mF rZ
   rw[if_neg (by decide),if_neg (by decide),if_pos rfl,List.zipWith_map,List.zipWith_self]
   refine List.map_congr_left fun c hc=>?_
   exact (Ol (List.all_eq_true.1 ha c hc) (b3' c hc)).symm
  ·subst e
   refine key _ hw rfl (by decide) _ _ _ _ _ _ _ (by unfold eU;rw[if_neg (by decide),if_neg (by decide),if_neg (by decide),if_pos rfl]) (fun x r hx=>?_) (by rw[show dY 4=2 from rfl];omega)
   subst hx
   match r,hl with
   | [y1,y2,y3,y4],_ =>
     simp at ha hb
     simp[mF,dY,wQ ha,wQ hb]
  ·subst e
   refine key _ hw rfl (by decide) _ _ _ _ _ _ _ (by unfold eU;rw[if_neg (by decide),if_neg (by decide),if_neg (by decide),if_neg (by decide),if_neg (by decide)]) (fun x r hx=>?_) (by rw[show dY 5=2 from rfl];omega)
   subst hx
   match r,hl with
   | [y1,y2],_=>simp[mF,dY]
  ·subst e
   refine key _ hw rfl (by decide) _ _ _ _ _ _ _ (by unfold eU;rw[if_neg (by decide),if_neg (by decide),if_neg (by decide),if_neg (by decide),if_neg (by decide)]) (fun x r hx=>?_) (by rw[show dY 6=1 from rfl];omega)
   subst hx
   match r,hl with
   | [y1],_=>simp[mF,dY]
  ·subst e
   refine key _ hw rfl (by decide) _ _ _ _ _ _ _ (by unfold eU;rw[if_neg (by decide),if_neg (by decide),if_neg (by decide),if_neg (by decide),if_pos rfl]) (fun x r hx=>?_) (by rw[show dY 7=1 from rfl];omega)
   subst hx
   match r,hl with
   | y::r,hl =>
     have hm:fV (x::y::r) 2=r.take ((x::y::r).length-dY 7-1-1):=by
      unfold fV
      rw[List.drop_succ_cons,List.drop_succ_cons,List.drop_zero]
      rfl
     have b4':=b4 rfl
     rw[hm] at b4' hb
     have e2:(x::y::r).length-dY 7-1=((x::y::r).length-dY 7-1-1)+1:=by
      rw[show dY 7=1 from rfl]
      simp only[bf] at hl ⊢
      omega
     rw[hm,e2,List.take_succ_cons,List.map_cons]
     simp at ha
     unfold mF
     rw[if_neg (by decide),if_neg (by decide),if_neg (by decide),if_neg (by decide),if_pos rfl,List.map_map]
     rw[show (List.getD (x::y::r) 1 dW)=y from rfl,wQ ha,Nat.add_sub_cancel]
     congr 1
     refine List.map_congr_left fun c hc=>?_
     exact (XR (List.all_eq_true.1 hb c hc) (b4' c hc)).symm
 ·rcases hall with e|⟨e,hw,hl,ha⟩|⟨e,hw,hl⟩|⟨e,hw,hl,ha⟩|⟨e,hw,hl,ha,hb⟩|⟨e,hw,hl⟩|⟨e,hw,hl⟩|⟨e,hw,hl,ha,hb⟩
  ·omega
  ·subst e
   exact .mk _ _ _ _ _ _ _ _ (by simp[eU,P.k]) (by simp[eU,P.k]) (fun e he=>by simp[eU,P.ex] at he) (by simp[eU,P.cols,P.ex]) h3
  ·subst e
   refine .mk _ _ _ _ _ _ _ _ (by simp[eU,P.k]) (by simp[eU,P.k]) (fun e he=>?_) (by simp[eU,P.cols,P.ex]) h3
   simp[eU,P.ex] at he
   rw[he]
   simpa using (vz _ (b2 rfl)).2.2
  ·subst e
   refine .mk _ _ _ _ _ _ _ _ (by simp[eU,P.k]) (by simp[eU,P.k]) (fun e he=>?_) (by simp[eU,P.cols,P.ex]) h3
   have he':e∈(fV l 1).map fun c=>(dX (c.kids.getD 1 dW)).1:=he
   obtain⟨c,hc,rfl⟩:=List.mem_map.1 he'
   exact (vz _ (b3 rfl c hc)).2.2
  ·subst e
   exact .mk _ _ _ _ _ _ _ _ (by simp[eU,P.k]) (by simp[eU,P.k]) (fun e he=>by simp[eU,P.ex] at he) (by simp[eU,P.cols,P.ex]) h3
  ·subst e
   exact .mk _ _ _ _ _ _ _ _ (by simp[eU,P.k]) (by simp[eU,P.k]) (fun e he=>by simp[eU,P.ex] at he) (by simp[eU,P.cols,P.ex]) h3
  ·subst e
   exact .mk _ _ _ _ _ _ _ _ (by simp[eU,P.k]) (by simp[eU,P.k]) (fun e he=>by simp[eU,P.ex] at he) (by simp[eU,P.cols,P.ex]) h3
  ·subst e
   exact .mk _ _ _ _ _ _ _ _ (by simp[eU,P.k]) (by simp[eU,P.k]) (fun e he=>by simp[eU,P.ex] at he) (by simp[eU,P.cols,P.ex]) h3
theorem vC {w w':World} {B n:Nat} {e:TypeId} {z:Nat} {v:Value} {xs:List Value} (h:w.ownsRow B e z v n xs)(hb:∀ k,v.ownBlock=some k→w'.heap[k]?=w.heap[k]?):w'.ownsRow B e z v n xs:=by
 refine⟨h.1,?_⟩
 rcases h.2 with hn|⟨g',cap,cur,rfl,hg',hgg,rest⟩
 ·exact .inl hn
 ·exact .inr ⟨g',cap,cur,rfl,hg',by rw[hb g' rfl];exact hgg,rest⟩
structure NU (g pb:Nat)(w2:World)(B:Nat)(v2 v3:Value)(ps:List EP)(cs:List ByteArray)(st:jL)(wr:World):Prop where
 box:wr.heap[pb]?=some (.cells #[.int .i64 3,.string ⟨#[]⟩,v2,v3,.slice none 0 0,.slice none 0 0,.slice none 0 0,.slice none 0 0] 27 (0,0))
 rY:wr.ownsRow B 9 1 v3 cs.length (strs cs)
 uF:wr.ownsRow B 38 4 v2 ps.length (kN ps)
 kids:∀ p∈ps,jG wr (fun k=>B≤k∧k<wr.heap.size∧v2.ownBlock≠some k∧v3.ownBlock≠some k) p.2.1 p.1.kids
 apart:∀ k,v2.ownBlock=some k→v3.ownBlock≠some k
 only:Only g w2 wr
 size:B≤wr.heap.size
 rd:sU wr g st
theorem NU.G9 {g pb B:Nat} {w2 wr w':World} {v2 v3:Value} {ps:List EP} {cs:List ByteArray} {st st':jL} (h:NU g pb w2 B v2 v3 ps cs st wr)(ho:Only g wr w')(hr:sU w' g st')(hg:g<pb)(hp:pb<B):NU g pb w2 B v2 v3 ps cs st' w':=by
 have hs:=h.size
 have hs':=ho.size
 exact⟨(ho.block pb (by omega) (by omega)).trans h.box,uX h.rY ho (by omega),uX h.uF ho (by omega),
  fun p hp'=>((h.kids p hp').kept fun k hk=>ho.block k hk.2.1 (by have:=hk.1;omega)).mono fun k hk=>⟨hk.1,by have:=hk.2.1;omega,hk.2.2⟩,h.apart,h.only.trans ho,by omega,hr⟩
theorem BJ (a b:List ByteArray):strs (a++b)=strs a++strs b:=by simp[strs]
theorem NU.step3 {g pb B g' cap:Nat} {w2 w3 w5:World} {v2 v3:Value} {ps:List EP} {cs:List ByteArray} {s:ByteArray} {st:jL} (h:NU g pb w2 B v2 v3 ps cs st w3)(hg5:w3.grownBy w5 v3.ownBlock)
 (iJ:w5.ownsRow B 9 1 (.slice (some ⟨g',0,none⟩) (cs.length+1) cap) (cs.length+1) (strs cs++[.string s]))
 (hat:(Value.slice (some ⟨g',0,none⟩) (cs.length+1) cap).ownBlock=v3.ownBlock∨∃ n,(Value.slice (some ⟨g',0,none⟩) (cs.length+1) cap).ownBlock=some n∧w3.heap.size≤n)
 (hg:g<pb)(hp:pb<B)(hw:w2.heap.size≤pb):NU g pb w2 B v2 (.slice (some ⟨g',0,none⟩) (cs.length+1) cap) ps (cs++[s]) st (w5.setCell ⟨pb,3,none⟩ (.slice (some ⟨g',0,none⟩) (cs.length+1) cap)):=by
 have hs:=h.size
 have hs5:=hg5.size
 have h3:∀ k,v3.ownBlock=some k→B≤k∧k<w3.heap.size:=fun k e=>h.rY.lt k e
 have h2:∀ k,v2.ownBlock=some k→B≤k∧k<w3.heap.size:=fun k e=>h.uF.lt k e
 have hne:g'≠pb:=fun e=>by
  rcases hat with h|⟨n,h,hn⟩
  ·have:=h3 g' (by rw[←h];rfl);omega
  ·have:n=g':=by simpa [Value.ownBlock] using h.symm
   omega
 have hoth:∀ k,k≠pb→k<w3.heap.size→v3.ownBlock≠some k→(w5.setCell ⟨pb,3,none⟩ (.slice (some ⟨g',0,none⟩) (cs.length+1) cap)).heap[k]?=w3.heap[k]?:=fun k a1 a2 a3 =>
  (aI w5 ⟨pb,3,none⟩ _ k a1).trans (hg5.block k a2 fun e=>a3 e.symm)
 have hz:(w5.setCell ⟨pb,3,none⟩ (.slice (some ⟨g',0,none⟩) (cs.length+1) cap)).heap.size=w5.heap.size:=by simp[World.setCell]
 have hv:∀ k,k<w3.heap.size→v3.ownBlock≠some k→(Value.slice (some ⟨g',0,none⟩) (cs.length+1) cap).ownBlock≠some k:=fun k a1 a2=>by
  rcases hat with h|⟨n,h,hn⟩
  ·rw[h];exact a2
  ·rw[h];intro e;have:=aY e;omega
 refine⟨jm (k:=3) ((hg5.block pb (by omega) fun e=>by have:=(h3 pb e.symm).1;omega).trans h.box),?_,?_,?_,?_,?_,by omega,?_⟩
 ·rw[aZ,cZ,BJ]
  exact nK iJ (aI w5 ⟨pb,3,none⟩ _ g' hne)
 ·exact vC h.uF fun k e=>hoth k (by have:=(h2 k e).1;omega) (h2 k e).2 (h.apart k e)
 ·intro p hp'
  exact ((h.kids p hp').kept fun k hk=>hoth k (by have:=hk.1;omega) hk.2.1 hk.2.2.2).mono fun k hk=>⟨hk.1,by have:=hk.2.1;omega,hk.2.2.1,hv k hk.2.1 hk.2.2.2⟩
 ·exact fun k e=>hv k (h2 k e).2 (h.apart k e)
 ·exact (h.only.grown hg5 (fun k e=>by have:=(h3 k e).1;omega)).dQ (p:=⟨pb,3,none⟩) hw _
 ·exact (aI w5 ⟨pb,3,none⟩ _ g (by show g≠pb;omega)).trans ((hg5.block g h.rd.lt (fun e=>by have:=(h3 g e.symm).1;omega)).trans h.rd)
theorem NU.step2 {g pb B g' cap sz:Nat} {w2 w3 w5:World} {v2 v3:Value} {ps:List EP} {cs:List ByteArray} {x:EP} {st:jL} (h:NU g pb w2 B v2 v3 ps cs st w3)(hg5:w3.grownBy w5 v2.ownBlock)
 (iJ:w5.ownsRow B 38 4 (.slice (some ⟨g',0,none⟩) (ps.length+1) cap) (ps.length+1) (kN ps++EP.cs x))
 (hat:(Value.slice (some ⟨g',0,none⟩) (ps.length+1) cap).ownBlock=v2.ownBlock∨∃ n,(Value.slice (some ⟨g',0,none⟩) (ps.length+1) cap).ownBlock=some n∧w3.heap.size≤n)
 (hx:jG w3 (fun k=>sz≤k∧k<w3.heap.size) x.2.1 x.1.kids)(hsz:B≤sz)(hz2:∀ k,v2.ownBlock=some k→k<sz)(hz3:∀ k,v3.ownBlock=some k→k<sz)
 (hg:g<pb)(hp:pb<B)(hw:w2.heap.size≤pb):NU g pb w2 B (.slice (some ⟨g',0,none⟩) (ps.length+1) cap) v3 (ps++[x]) cs st (w5.setCell ⟨pb,2,none⟩ (.slice (some ⟨g',0,none⟩) (ps.length+1) cap)):=by
 have hs:=h.size
 have hs5:=hg5.size
 have h3:∀ k,v3.ownBlock=some k→B≤k∧k<w3.heap.size:=fun k e=>h.rY.lt k e
 have h2:∀ k,v2.ownBlock=some k→B≤k∧k<w3.heap.size:=fun k e=>h.uF.lt k e
 have hne:g'≠pb:=fun e=>by
  rcases hat with h|⟨n,h,hn⟩
  ·have:=h2 g' (by rw[←h];rfl);omega
  ·have:n=g':=by simpa [Value.ownBlock] using h.symm
   omega
 have hoth:∀ k,k≠pb→k<w3.heap.size→v2.ownBlock≠some k→(w5.setCell ⟨pb,2,none⟩ (.slice (some ⟨g',0,none⟩) (ps.length+1) cap)).heap[k]?=w3.heap[k]?:=fun k a1 a2 a3 =>
  (aI w5 ⟨pb,2,none⟩ _ k a1).trans (hg5.block k a2 fun e=>a3 e.symm)
 have hz:(w5.setCell ⟨pb,2,none⟩ (.slice (some ⟨g',0,none⟩) (ps.length+1) cap)).heap.size=w5.heap.size:=by simp[World.setCell]
 have hv:∀ k,k<w3.heap.size→v2.ownBlock≠some k→(Value.slice (some ⟨g',0,none⟩) (ps.length+1) cap).ownBlock≠some k:=fun k a1 a2=>by
  rcases hat with h|⟨n,h,hn⟩
  ·rw[h];exact a2
  ·rw[h];intro e;have:=aY e;omega
 refine⟨jm (k:=2) ((hg5.block pb (by omega) fun e=>by have:=(h2 pb e.symm).1;omega).trans h.box),?_,?_,?_,?_,?_,by omega,?_⟩
 ·exact vC h.rY fun k e=>hoth k (by have:=(h3 k e).1;omega) (h3 k e).2 (fun e2=>h.apart k e2 e)
 ·rw[aZ,cZ,o8,nR]
  exact nK iJ (aI w5 ⟨pb,2,none⟩ _ g' hne)
 ·intro p hp'
  rcases cu.1 hp' with hp'|hp'
  ·exact ((h.kids p hp').kept fun k hk=>hoth k (by have:=hk.1;omega) hk.2.1 hk.2.2.1).mono fun k hk=>⟨hk.1,by have:=hk.2.1;omega,hv k hk.2.1 hk.2.2.1,hk.2.2.2⟩
  ·obtain rfl:p=x:=by simpa using hp'
   have a2:∀ k,sz≤k→v2.ownBlock≠some k:=fun k hk e=>by have:=hz2 k e;omega
   have a3:∀ k,sz≤k→v3.ownBlock≠some k:=fun k hk e=>by have:=hz3 k e;omega
   exact (hx.kept fun k hk=>hoth k (by have:=hk.1;omega) hk.2 (a2 k hk.1)).mono fun k hk=>⟨by have:=hk.1;omega,by have:=hk.2;omega,hv k hk.2 (a2 k hk.1),a3 k hk.1⟩
 ·intro k e e3
  exact hv k (h3 k e3).2 (fun e2=>h.apart k e2 e3) e
 ·exact (h.only.grown hg5 (fun k e=>by have:=(h2 k e).1;omega)).dQ (p:=⟨pb,2,none⟩) hw _
 ·exact (aI w5 ⟨pb,2,none⟩ _ g (by show g≠pb;omega)).trans ((hg5.block g h.rd.lt (fun e=>by have:=(h2 g e.symm).1;omega)).trans h.rd)
def oP (c:T):ByteArray:=(c.kids.getD 0 dW).s
def wW (c:T):E:=(dX (c.kids.getD 1 dW)).1
def aap (g pb:Nat)(w2:World)(B:Nat)(mid:List T)(st:jL)(i:Value)(wr:World):Prop :=
 ∃ (j:Nat)(ps:List EP)(v2 v3:Value),j≤mid.length∧i=.int .i64 j∧ps.map Prod.fst=(mid.take j).map wW∧NU g pb w2 B v2 v3 ps ((mid.take j).map oP) (qQ (mid.take j) st) wr
def adn (g pb:Nat)(w2:World)(B q:Nat)(x:T)(A2:Option Addr)(c2:Nat)(v2:Value)(ps:List EP)(cs:List ByteArray)(st:jL)(wx:World):Prop :=
 ∃ v3,NU g pb w2 B v2 v3 ps cs st wx∧wx.heap[q]?=some (.cells #[.int .i64 x.k,.string x.s,.int .i64 x.n,.slice A2 x.kids.length c2,.int .i64 x.at_] 71 (0,0))∧v2.ownBlock≠some q∧v3.ownBlock≠some q
theorem DW {l:List T} {j:Nat} {x:T} (h:l[j]?=some x)(st:jL):qQ (l.take (j+1)) st=qo (x.kids.getD 1 dW) (jl (x.kids.getD 0 dW) (qQ (l.take j) st)):=by
 unfold qQ
 rw[List.take_add_one,h,List.foldl_append]
 rfl
theorem jU {α:Type} (f:T→α) {l:List T} {j:Nat} {x:T} (h:l[j]?=some x):(l.take (j+1)).map f=(l.take j).map f++[f x]:=by
 rw[List.take_add_one,h,List.map_append]
 rfl
theorem CX {l:List T} {i m:Nat} (h:l.length=m+i+1):(fV l i).length=m:=by
 unfold fV
 rw[List.length_take,List.length_drop]
 omega
theorem CY {l:List T} {i m j:Nat} (h:l.length=m+i+1)(hj:j<m):(fV l i)[j]?=l[i+j]?:=by
 unfold fV
 rw[List.getElem?_take,if_pos (by omega),List.getElem?_drop]
theorem Ha {ln m i c:Nat} (h:ln=m+i+1)(hc:ln≤c)(h6:ln≤600):∃ e:Nat,(ln:Int)-1=(e:Int)∧wrap64 (e:Int)=(e:Int)∧(i:Int)≤(e:Int)∧i≤e∧e≤c∧(e:Int)≤(c:Int)∧e-i=m∧(e:Int)-(i:Int)=(m:Int)∧¬c=i∧i≤c :=
 ⟨m+i,by omega,IntWalk.wrap64_in _ (by omega),by omega,by omega,by omega,by omega,by omega,by omega,by omega,by omega⟩
theorem BK {x:T} (h:fE x=true):∃ y z,x.kids=[y,z]∧x.kids.length=2:=by
 unfold fE at h
 simp at h
 match hk:x.kids,h.2.1 with
 | [y,z],_=>exact⟨y,z,rfl,rfl⟩
structure Q9 (g pb:Nat)(w2:World)(B:Nat)(lv v:Value)(gs:List Ag)(st:jL)(wr:World):Prop where
 box:wr.heap[pb]?=some (.cells #[.int .i64 7,.string ⟨#[]⟩,.slice none 0 0,.slice none 0 0,lv,.slice none 0 0,v,.slice none 0 0] 27 (0,0))
 own:wr.ownsRow B 46 3 v gs.length (jd gs)
 only:Only g w2 wr
 size:B≤wr.heap.size
 rd:sU wr g st
theorem Q9.G9 {g pb B:Nat} {w2 wr w':World} {lv v:Value} {gs:List Ag} {st st':jL} (h:Q9 g pb w2 B lv v gs st wr)(ho:Only g wr w')(hr:sU w' g st')(hg:g<pb)(hp:pb<B):Q9 g pb w2 B lv v gs st' w':=by
 have hs:=h.size
 have hs':=ho.size
 exact⟨(ho.block pb (by omega) (by omega)).trans h.box,uX h.own ho (by omega),h.only.trans ho,by omega,hr⟩
theorem NV (l:List Ag):∀ u∈jd l,u.oneCell'=true:=by
 intro u hu
 obtain⟨v,_,hv⟩:=List.mem_flatMap.1 hu
 simp only[Ag.cs,bZ,bI,or_false] at hv
 rcases hv with rfl|rfl|rfl <;> rfl
theorem Q9.step {g pb B g' cap:Nat} {w2 w3 w5:World} {lv v:Value} {gs:List Ag} {x:Ag} {st:jL} (h:Q9 g pb w2 B lv v gs st w3)(hg5:w3.grownBy w5 v.ownBlock)
 (iJ:w5.ownsRow B 46 3 (.slice (some ⟨g',0,none⟩) (gs.length+1) cap) (gs.length+1) (jd gs++Ag.cs x))
 (hat:(Value.slice (some ⟨g',0,none⟩) (gs.length+1) cap).ownBlock=v.ownBlock∨∃ n,(Value.slice (some ⟨g',0,none⟩) (gs.length+1) cap).ownBlock=some n∧w3.heap.size≤n)
 (hg:g<pb)(hp:pb<B)(hw:w2.heap.size≤pb):Q9 g pb w2 B lv (.slice (some ⟨g',0,none⟩) (gs.length+1) cap) (gs++[x]) st (w5.setCell ⟨pb,6,none⟩ (.slice (some ⟨g',0,none⟩) (gs.length+1) cap)):=by
 have hs:=h.size
 have hs5:=hg5.size
 have h2:∀ k,v.ownBlock=some k→B≤k∧k<w3.heap.size:=fun k e=>h.own.lt k e
 have hne:g'≠pb:=fun e=>by
  rcases hat with h|⟨n,h,hn⟩
  ·have:=h2 g' (by rw[←h];rfl);omega
  ·have:n=g':=by simpa [Value.ownBlock] using h.symm
   omega
 have hz:(w5.setCell ⟨pb,6,none⟩ (.slice (some ⟨g',0,none⟩) (gs.length+1) cap)).heap.size=w5.heap.size:=by simp[World.setCell]
 refine⟨jm (k:=6) ((hg5.block pb (by omega) fun e=>by have:=(h2 pb e.symm).1;omega).trans h.box),?_,?_,by omega,?_⟩
 ·rw[aZ,cZ,yQ,Ap]
  exact nK iJ (aI w5 ⟨pb,6,none⟩ _ g' hne)
 ·exact (h.only.grown hg5 (fun k e=>by have:=(h2 k e).1;omega)).dQ (p:=⟨pb,6,none⟩) hw _
 ·exact (aI w5 ⟨pb,6,none⟩ _ g (by show g≠pb;omega)).trans ((hg5.block g h.rd.lt (fun e=>by have:=(h2 g e.symm).1;omega)).trans h.rd)
def qE (c:T):Ag:=qp c.kids
def XF (g pb:Nat)(w2:World)(B:Nat)(lv:Value)(mid:List T)(st:jL)(wl:World)(i:Value)(wr:World):Prop :=
 ∃ (j:Nat)(v:Value),j≤mid.length∧i=.int .i64 j∧Q9 g pb w2 B lv v ((mid.take j).map qE) (oW (mid.take j) st) wr∧(∀ k,pb<k→k<B→wr.heap[k]?=wl.heap[k]?)
theorem DX {l:List T} {j:Nat} {x:T} (h:l[j]?=some x)(st:jL):oW (l.take (j+1)) st=rV x.kids (oW (l.take j) st):=by
 unfold oW
 rw[List.take_add_one,h,List.foldl_append]
 rfl
theorem Rf {g pb B:Nat} {w2 wr:World} {mid:List T} {st:jL} {j:Nat} {x y z:T} {ps:List EP} {v2 v3:Value} {A:Option Addr} {c:Nat} (hx:mid[j]?=some x)(hk:x.kids=[y,z])
 (hps:ps.map Prod.fst=(mid.take j).map wW)(h:NU g pb w2 B v2 v3 (ps++[((dX z).1,A,c)]) ((mid.take j).map oP++[y.s]) (qo z (jl y (qQ (mid.take j) st))) wr):aap g pb w2 B mid st (.int .i64 ((j:Int)+1)) wr:=by
 have hj:j<mid.length:=(aV.1 hx).1
 refine⟨j+1,ps++[((dX z).1,A,c)],v2,v3,hj,by simp,?_,?_⟩
 ·rw[jU wW hx,List.map_append,hps]
  unfold wW
  rw[hk]
  rfl
 ·have e1:(mid.take (j+1)).map oP=(mid.take j).map oP++[y.s]:=by
   rw[jU oP hx]
   unfold oP
   rw[hk]
   rfl
  have e2:qQ (mid.take (j+1)) st=qo z (jl y (qQ (mid.take j) st)):=by
   rw[DW hx,hk]
   rfl
  rw[e1,e2]
  exact h
theorem Rh {g pb B g' cap:Nat} {w2 wl wr w3 w5:World} {lv v:Value} {mid:List T} {st:jL} {j:Nat} {x:T} (hx:mid[j]?=some x)(hr:Q9 g pb w2 B lv v ((mid.take j).map qE) (oW (mid.take j) st) wr)(hold:∀ k,pb<k→k<B→wr.heap[k]?=wl.heap[k]?)
 (ho:Only g wr w3)(h:Q9 g pb w2 B lv v ((mid.take j).map qE) (rV x.kids (oW (mid.take j) st)) w3)(hg5:w3.grownBy w5 v.ownBlock)
 (iJ:w5.ownsRow B 46 3 (.slice (some ⟨g',0,none⟩) (j+1) cap) (j+1) (jd ((mid.take j).map qE)++Ag.cs (qE x)))
 (hat:(Value.slice (some ⟨g',0,none⟩) (j+1) cap).ownBlock=v.ownBlock∨∃ n,(Value.slice (some ⟨g',0,none⟩) (j+1) cap).ownBlock=some n∧w3.heap.size≤n)
 (hg:g<pb)(hp:pb<B)(hw:w2.heap.size≤pb):XF g pb w2 B lv mid st wl (.int .i64 ((j:Int)+1)) (w5.setCell ⟨pb,6,none⟩ (.slice (some ⟨g',0,none⟩) (j+1) cap)):=by
 have hj:j<mid.length:=(aV.1 hx).1
 have hl:((mid.take j).map qE).length=j:=by rw[bM,List.length_take];omega
 have hs:=hr.size
 have hs3:=ho.size
 have h2:∀ k,v.ownBlock=some k→B≤k∧k<wr.heap.size:=fun k e=>hr.own.lt k e
 refine⟨j+1,.slice (some ⟨g',0,none⟩) (j+1) cap,hj,by simp,?_,?_⟩
 ·rw[jU qE hx,DX hx]
  have:=Q9.step (g':=g') (cap:=cap) (x:=qE x) h hg5 (by rw[hl];exact iJ) (by rw[hl];exact hat) hg hp hw
  rw[hl] at this
  exact this
 ·intro k k1 k2
  exact (aI w5 ⟨pb,6,none⟩ _ k (by show k≠pb;omega)).trans ((hg5.block k (by omega) fun e=>by have:=(h2 k e.symm).1;omega).trans ((ho.block k (by omega) (by omega)).trans (hold k k1 k2)))
theorem UA {l:List T} {ln c g p2 p3:Nat} (hl:ln=l.length)(h2:3≤l.length)(hc:l.length≤c)(h6:l.length≤600)(hg:g<p2)(hp:p2<p3):∃ m e:Nat,∃ y:T,l[0]?=some y∧l.length=m+1+1∧(ln:Int)-1=(e:Int)∧wrap64 (e:Int)=(e:Int)∧(1:Int)≤(e:Int)∧1≤e ∧
 e≤c∧(e:Int)≤(c:Int)∧e-1=m∧(e:Int)-1=(m:Int)∧¬c=1∧1≤c∧m≤600∧dY 3≤l.length∧g≤p3∧g<p3:=by
 obtain⟨e,a1,a2,a3,a4,a5,a6,a7,a8,a9,a10⟩:=Ha (ln:=ln) (m:=ln-2) (i:=1) (c:=c) (by omega) (by omega) (by omega)
 exact⟨ln-2,e,_,aO (by omega),by omega,a1,a2,a3,a4,a5,a6,a7,a8,a9,a10,by omega,by rw[show dY 3=1 from rfl];omega,by omega,by omega⟩
theorem UB {l:List T} {ln c g p2 p3:Nat} (hl:ln=l.length)(h2:3≤l.length)(hc:l.length≤c)(h6:l.length≤600)(hg:g<p2)(hp:p2<p3):∃ m e:Nat,∃ y x:T,l[0]?=some y∧l[1]?=some x∧l.length=m+2+1∧(ln:Int)-1=(e:Int)∧wrap64 (e:Int)=(e:Int)∧(2:Int)≤(e:Int)∧2≤e ∧
 e≤c∧(e:Int)≤(c:Int)∧e-2=m∧(e:Int)-2=(m:Int)∧¬c=2∧2≤c∧m≤600∧dY 7≤l.length∧g≤p3∧g<p3∧1<ln∧(1:Int)<(ln:Int):=by
 obtain⟨e,a1,a2,a3,a4,a5,a6,a7,a8,a9,a10⟩:=Ha (ln:=ln) (m:=ln-3) (i:=2) (c:=c) (by omega) (by omega) (by omega)
 exact⟨ln-3,e,_,_,aO (by omega),aO (by omega),by omega,a1,a2,a3,a4,a5,a6,a7,a8,a9,a10,by omega,by rw[show dY 7=1 from rfl];omega,by omega,by omega,by omega,by omega⟩
def XG (g pb:Nat)(w2:World)(kd:Int)(l:List T)(st:jL)(s7:Value)(wx:World):Prop :=
 ∃ a0:PA,s7=.int .i64 (dY kd)∧(dY kd=1∨dY kd=2)∧dY kd≤l.length∧wx.heap[pb]?=some (.cells #[.int .i64 (eU kd l).k,.string (eU kd l).nm,.slice a0.ea (eU kd l).ex.length a0.ec,.slice a0.ca (eU kd l).cols.length a0.cc,.slice a0.la (eU kd l).left.length a0.lc,.slice a0.ra (eU kd l).right.length a0.rc,.slice a0.ga (eU kd l).ag.length a0.gc,.slice none 0 0] 27 (0,0)) ∧
   nU wx (fun k=>pb<k∧k<wx.heap.size) (eU kd l) a0∧Only g w2 wx∧sU wx g st
def ru:PA:=⟨none,0,none,0,none,0,none,0,none,0,none,0⟩
theorem kJ (w:World)(S:Nat→Prop)(kd:Int)(s:ByteArray):nU w S (.mk kd s [] [] [] [] [] []) ru :=
 ⟨.nil _,.inl rfl,.inl rfl,.inl rfl,.inl rfl,by simp[P.ex],by simp[P.cols],by simp[P.left],by simp[P.right],by simp[P.ag]⟩
theorem NW {g pb:Nat} {w2 w3:World} {mid:List T} {st:jL} (hb:w3.heap[pb]?=some (.cells #[.int .i64 3,.string ⟨#[]⟩,.slice none 0 0,.slice none 0 0,.slice none 0 0,.slice none 0 0,.slice none 0 0,.slice none 0 0] 27 (0,0)))(ho:Only g w2 w3)(hr:sU w3 g st):aap g pb w2 w3.heap.size mid st (.int .i64 0) w3 :=
 ⟨0,[],.slice none 0 0,.slice none 0 0,aX _,rfl,by simp,⟨by exact hb,⟨rfl,.inl ⟨rfl,rfl⟩⟩,⟨rfl,.inl ⟨rfl,rfl⟩⟩,fun p hp=>(by cases hp),fun k e=>(by cases e),ho,aF _,hr⟩⟩
theorem XH {g pb B g' cap:Nat} {w2 wr wx w4 w5:World} {v2 v3:Value} {ps:List EP} {cs:List ByteArray} {s:ByteArray} {st st':jL} {x:T} {A2:Option Addr} {c2:Nat} (hr:NU g pb w2 B v2 v3 ps cs st wr)
 (hnx:wx.heap[wr.heap.size]?=some (.cells #[.int .i64 x.k,.string x.s,.int .i64 x.n,.slice A2 x.kids.length c2,.int .i64 x.at_] 71 (0,0)))(ho:Only g wx w4)(h4:NU g pb w2 B v2 v3 ps cs st' w4)(hg5:w4.grownBy w5 v3.ownBlock)
 (iJ:w5.ownsRow B 9 1 (.slice (some ⟨g',0,none⟩) (cs.length+1) cap) (cs.length+1) (strs cs++[.string s]))
 (hat:(Value.slice (some ⟨g',0,none⟩) (cs.length+1) cap).ownBlock=v3.ownBlock∨∃ n,(Value.slice (some ⟨g',0,none⟩) (cs.length+1) cap).ownBlock=some n∧w4.heap.size≤n)
 (hg:g<pb)(hp:pb<B)(hw:w2.heap.size≤pb):adn g pb w2 B wr.heap.size x A2 c2 v2 ps (cs++[s]) st' (w5.setCell ⟨pb,3,none⟩ (.slice (some ⟨g',0,none⟩) (cs.length+1) cap)):=by
 have hs:=hr.size
 have hsx:=(aU.1 hnx).1
 have hs4:=ho.size
 have h3:∀ k,v3.ownBlock=some k→B≤k∧k<wr.heap.size:=fun k e=>hr.rY.lt k e
 have h2:∀ k,v2.ownBlock=some k→B≤k∧k<wr.heap.size:=fun k e=>hr.uF.lt k e
 refine⟨_,h4.step3 hg5 iJ hat hg hp hw,?_,fun e=>by have:=(h2 _ e).2;omega,fun e=>?_⟩
 ·exact (aI w5 ⟨pb,3,none⟩ _ wr.heap.size (by show wr.heap.size≠pb;omega)).trans ((hg5.block _ (by omega) fun e=>by have:=(h3 _ e.symm).2;omega).trans ((ho.block _ hsx (by omega)).trans hnx))
 ·rcases hat with h|⟨n,h,hn⟩
  ·rw[h] at e
   have:=(h3 _ e).2
   omega
  ·rw[h] at e
   have:=aY e
   omega
structure UC (w:World)(g b o j:Nat)(x y z:T)(b2 o2 c2:Nat)(A3:Option Addr)(c3:Nat)(A4:Option Addr)(c4:Nat):Prop where
 x0:w.cell? ⟨b,o+5+j*5,none⟩=some (.int .i64 x.k)
 x1:w.cell? ⟨b,o+5+j*5+1,none⟩=some (.string x.s)
 x2:w.cell? ⟨b,o+5+j*5+2,none⟩=some (.int .i64 x.n)
 x3:w.cell? ⟨b,o+5+j*5+3,none⟩=some (.slice (some ⟨b2,o2,none⟩) 2 c2)
 x4:w.cell? ⟨b,o+5+j*5+4,none⟩=some (.int .i64 x.at_)
 y0:w.cell? ⟨b2,o2,none⟩=some (.int .i64 y.k)
 y1:w.cell? ⟨b2,o2+1,none⟩=some (.string y.s)
 y2:w.cell? ⟨b2,o2+2,none⟩=some (.int .i64 y.n)
 y3:w.cell? ⟨b2,o2+3,none⟩=some (.slice A3 y.kids.length c3)
 y4:w.cell? ⟨b2,o2+4,none⟩=some (.int .i64 y.at_)
 z0:w.cell? ⟨b2,o2+5,none⟩=some (.int .i64 z.k)
 z1:w.cell? ⟨b2,o2+5+1,none⟩=some (.string z.s)
 z2:w.cell? ⟨b2,o2+5+2,none⟩=some (.int .i64 z.n)
 z3:w.cell? ⟨b2,o2+5+3,none⟩=some (.slice A4 z.kids.length c4)
 z4:w.cell? ⟨b2,o2+5+4,none⟩=some (.int .i64 z.at_)
 ky:fA w g A3 y.kids
 kz:fA w g A4 z.kids
theorem Ri {w:World} {g b o j:Nat} {l:List T} {x y z:T} (h:fA w g (some ⟨b,o,none⟩) l)(hg:g≤w.heap.size)(hx:l[1+j]?=some x)(hk:x.kids=[y,z]) :
 ∃ b2 o2 c2 A3 c3 A4 c4,2≤c2∧y.kids.length≤c3∧z.kids.length≤c4∧∀ w',Only g w w'→UC w' g b o j x y z b2 o2 c2 A3 c3 A4 c4:=by
 obtain⟨b',o',A2,c2,e,hb,x0,x1,x2,x3,x4,hc2,hK⟩:=h.at hg hx
 obtain⟨rfl,rfl⟩:b=b'∧o=o':=by injection e with e;injection e with e1 e2;exact⟨e1,e2⟩
 rw[hk] at hK hc2 x3
 obtain⟨b2,o2,A3,c3,rfl,hb2,y0,y1,y2,y3,y4,hc3,hKy⟩:=hK.at hg (i:=0) (x:=y) rfl
 obtain⟨b2',o2',A4,c4,e2,_,z0,z1,z2,z3,z4,hc4,hKz⟩:=hK.at hg (i:=1) (x:=z) rfl
 obtain⟨rfl,rfl⟩:b2=b2'∧o2=o2':=by injection e2 with e;injection e with e1 e2;exact⟨e1,e2⟩
 rw[show o+(1+j)*5=o+5+j*5 by omega] at x0 x1 x2 x3 x4
 rw[Nat.zero_mul,Nat.add_zero] at y0 y1 y2 y3 y4
 rw[Nat.one_mul] at z0 z1 z2 z3 z4
 refine⟨b2,o2,c2,A3,c3,A4,c4,hc2,hc3,hc4,fun w' ho=>?_⟩
 have hB:∀ q,w'.cell? ⟨b,q,none⟩=w.cell? ⟨b,q,none⟩:=fun q=>ho.cell (p:=⟨b,q,none⟩) (by show b<_;omega) (by show b≠g;omega)
 have hB2:∀ q,w'.cell? ⟨b2,q,none⟩=w.cell? ⟨b2,q,none⟩:=fun q=>ho.cell (p:=⟨b2,q,none⟩) (by show b2<_;omega) (by show b2≠g;omega)
 have hlow:=ho.below (B:=g) hg (aF _)
 exact⟨(hB _).trans x0,(hB _).trans x1,(hB _).trans x2,(hB _).trans x3,(hB _).trans x4,(hB2 _).trans y0,(hB2 _).trans y1,(hB2 _).trans y2,(hB2 _).trans y3,(hB2 _).trans y4,
  (hB2 _).trans z0,(hB2 _).trans z1,(hB2 _).trans z2,(hB2 _).trans z3,(hB2 _).trans z4,hKy.low hlow,hKz.low hlow⟩
theorem IW {l:List T} {i m j:Nat} (h:l.length=m+i+1)(hj:j<m):∃ x,l[i+j]?=some x:=⟨_,aO (by omega)⟩
theorem oq {n j:Nat} (h:n=j)(hj:j≤600):n+1≤maxLen:=by unfold maxLen;omega
theorem lX {n j z:Nat} (h:n=j)(hj:j≤600)(hz:z≤200):(n+1)*z≤140737488355328:=by
 have:(n+1)*z≤601*200:=Nat.mul_le_mul (by omega) hz
 omega
theorem NY {α:Type} {f:T→α} {l:List T} {j m:Nat} (h:l.length=m)(hj:j≤m):((l.take j).map f).length=j:=by
 rw[bM,List.length_take]
 omega
theorem aaq {α:Type} {f:T→E} {l:List T} {ps:List (E×α)} {j m:Nat} (h:l.length=m)(hj:j≤m)(hp:ps.map Prod.fst=(l.take j).map f):ps.length=j:=by
 have:=congrArg List.length hp
 rw[bM,NY h hj] at this
 exact this
theorem aar {g pb B:Nat} {w2 wr:World} {v2 v3:Value} {ps:List EP} {l mid:List T} {a:Int} {st:jL} {j m:Nat} (hm:mid.length=m)(hj:j≤m)(hn:¬j<m)(hps:ps.map Prod.fst=(mid.take j).map wW)(h:NU g pb w2 B v2 v3 ps ((mid.take j).map oP) (qQ (mid.take j) st) wr)
 (hbp:eU 3 l=.mk 3 ⟨#[]⟩ (mid.map wW) (mid.map oP) [] [] [] [])(hbr:iR 3 l a st=qQ mid st)(hkl:dY 3≤l.length)(h6:m≤600)(hp:pb<B):XG g pb w2 3 l (iR 3 l a st) (.int .i64 1) wr:=by
 have ht:mid.take j=mid:=bJ (by omega)
 rw[ht] at hps h
 have hl:=congrArg List.length hps
 rw[bM,bM] at hl
 have hs:=h.size
 obtain⟨A2,c2,e2,hx⟩:=wF h.uF (by omega) (S:=fun k=>pb<k∧k<wr.heap.size) (fun k k1 k2=>⟨by omega,k2⟩) (fun p hp'=>(h.kids p hp').mono fun k hk=>⟨by have:=hk.1;omega,hk.2.1⟩)
 obtain⟨A3,c3,e3,hc3,hL⟩:=oH h.rY (S:=fun k=>pb<k∧k<wr.heap.size) (fun k k1 k2=>⟨by omega,k2⟩)
 subst e2 e3
 refine⟨{ ru with ea:=A2,ec:=c2,ca:=A3,cc:=c3 },rfl,.inl rfl,hkl,?_,?_,h.only,?_⟩
 ·rw[h.box,hbp]
  simp only[P.k,P.nm,P.ex,P.cols,P.left,P.right,P.ag,hps]
  rfl
 ·rw[hbp]
  refine⟨by rw[hps] at hx;exact hx,hL,.inl rfl,.inl rfl,.inl rfl,?_,?_,by simp[P.left],by simp[P.right],by simp[P.ag]⟩
  ·simp only[P.ex,bM];omega
  ·simp only[P.cols,bM];omega
 ·rw[hbr]
  exact h.rd
theorem NZ {g pb:Nat} {w2 w4:World} {mid:List T} {st:jL} {lv:Value} (hb:w4.heap[pb]?=some (.cells #[.int .i64 7,.string ⟨#[]⟩,.slice none 0 0,.slice none 0 0,.slice none 0 0,.slice none 0 0,.slice none 0 0,.slice none 0 0] 27 (0,0)))
 (ho:Only g w2 w4)(hr:sU w4 g st)(hg:g<pb)(hw:w2.heap.size≤pb):XF g pb w2 w4.heap.size lv mid st (w4.setCell ⟨pb,4,none⟩ lv) (.int .i64 0) (w4.setCell ⟨pb,4,none⟩ lv):=by
 refine⟨0,.slice none 0 0,aX _,rfl,⟨jm (k:=4) hb,⟨rfl,.inl ⟨rfl,rfl⟩⟩,ho.dQ (p:=⟨pb,4,none⟩) hw _,by simp[World.setCell],?_⟩,fun _ _ _=>rfl⟩
 exact (aI w4 ⟨pb,4,none⟩ _ g (by show g≠pb;omega)).trans hr
theorem aas {g pb:Nat} {w2 w3 w4 wr:World} {v:Value} {l mid xs:List T} {a:Int} {st:jL} {A4:Option Addr} {c4 xm:Nat} {j m:Nat} (hm:mid.length=m)(hj:j≤m)(hn:¬j<m)
 (h:Q9 g pb w2 w4.heap.size (.slice A4 xm c4) v ((mid.take j).map qE) (oW (mid.take j) (jc xs st)) wr)(hold:∀ k,pb<k→k<w4.heap.size→wr.heap[k]?=(w4.setCell ⟨pb,4,none⟩ (.slice A4 xm c4)).heap[k]?)
 (hL:Lies w4 (fun k=>w3.heap.size≤k∧k<w4.heap.size) A4 (strs (xs.map T.s)))(hxm:xs.length=xm)(Ul:xm≤c4)(hx6:xm≤600)
 (hbp:eU 7 l=.mk 7 ⟨#[]⟩ [] [] (xs.map T.s) [] (mid.map qE) [])(hbr:iR 7 l a st=oW mid (jc xs st))(hkl:dY 7≤l.length)(h6:m≤600)(hp:pb<w3.heap.size)(amZ:w3.heap.size≤w4.heap.size):XG g pb w2 7 l (iR 7 l a st) (.int .i64 1) wr:=by
 have ht:mid.take j=mid:=bJ (by omega)
 rw[ht] at h
 have hs:=h.size
 obtain⟨A3,c3,e3,hc3,hLg⟩:=oH h.own (S:=fun k=>pb<k∧k<wr.heap.size) (fun k k1 k2=>⟨by omega,k2⟩)
 subst e3
 refine⟨{ ru with la:=A4,lc:=c4,ga:=A3,gc:=c3 },rfl,.inl rfl,hkl,?_,?_,h.only,?_⟩
 ·rw[h.box,hbp]
  simp only[P.k,P.nm,P.ex,P.cols,P.left,P.right,P.ag,bM,hxm]
  rfl
 ·rw[hbp]
  refine⟨.nil _,.inl rfl,?_,.inl rfl,hLg,by simp[P.ex],by simp[P.cols],?_,by simp[P.right],?_⟩
  ·exact (hL.kept fun k hk=>(hold k (by have:=hk.1;omega) hk.2).trans (aI w4 ⟨pb,4,none⟩ _ k (by show k≠pb;have:=hk.1;omega))).mono fun k hk=>⟨by have:=hk.1;omega,by have:=hk.2;omega⟩
  ·simp only[P.left,bM];exact⟨by omega,by rw[hxm];exact Ul⟩
  ·simp only[P.ag,bM];omega
 ·rw[hbr]
  exact h.rd
theorem sZ {w:World} {B n z pb:Nat} {e:TypeId} {v:Value} {xs:List Value} (h:w.ownsRow B e z v n xs)(hp:pb<B):v.ownBlock≠some pb:=fun e=>by have:=(h.lt pb e).1;omega
theorem DY {s:ByteArray}:∀ u∈[Value.string s],u.oneCell'=true:=by
 intro u hu
 rw[df.1 hu]
 rfl
theorem XI {t:T} (h:kG t=true):t.kids.length=2∨t.kids.length=3:=by
 unfold kG at h
 simp at h
 exact h.2
theorem N7 {g pb B g' cap:Nat} {w2 wl wr w3 w5:World} {lv v:Value} {mid:List T} {st stj st5:jL} {j:Nat} {x:T} {gs:List Ag} {ax:Ag} (hgs:(mid.take j).map qE=gs)(hst:oW (mid.take j) st=stj)(hax:qp x.kids=ax)(CZ:rV x.kids stj=st5)(hx:mid[j]?=some x)
 (hr:Q9 g pb w2 B lv v gs stj wr)(hold:∀ k,pb<k→k<B→wr.heap[k]?=wl.heap[k]?)(ho:Only g wr w3)(h:Q9 g pb w2 B lv v gs st5 w3)(hg5:w3.grownBy w5 v.ownBlock)
 (iJ:w5.ownsRow B 46 3 (.slice (some ⟨g',0,none⟩) (j+1) cap) (j+1) (jd gs++Ag.cs ax))
 (hat:(Value.slice (some ⟨g',0,none⟩) (j+1) cap).ownBlock=v.ownBlock∨∃ n,(Value.slice (some ⟨g',0,none⟩) (j+1) cap).ownBlock=some n∧w3.heap.size≤n)
 (hg:g<pb)(hp:pb<B)(hw:w2.heap.size≤pb):XF g pb w2 B lv mid st wl (.int .i64 ((j:Int)+1)) (w5.setCell ⟨pb,6,none⟩ (.slice (some ⟨g',0,none⟩) (j+1) cap)):=by
 subst hgs hst hax CZ
 exact Rh hx hr hold ho h hg5 iJ hat hg hp hw
structure Ub (w0:World)(tb B:Nat)(v:Value)(ps:List TP)(wr:World):Prop where
 box:wr.heap[tb]?=some (.cells #[.int .i64 1,.string ⟨#[]⟩,.int .i64 0,v,.int .i64 0] 71 (0,0))
 own:wr.ownsRow B 71 5 v ps.length (ed ps)
 kids:∀ p∈ps,p.1.kids.length≤p.2.2∧mQ wr (fun k=>B≤k∧k<wr.heap.size∧v.ownBlock≠some k∧k≠tb) p.2.1 p.1.kids
 CG:v.ownBlock≠some tb
 below:Below w0.heap.size w0 wr
 tb0:w0.heap.size≤tb
 B0:w0.heap.size≤B
theorem Ub.lt {w0 wr:World} {tb B:Nat} {v:Value} {ps:List TP} (h:Ub w0 tb B v ps wr):tb<wr.heap.size:=(aU.1 h.box).1
theorem Ub.bel {w0 wr w':World} {tb B:Nat} {v:Value} {ps:List TP} (h:Ub w0 tb B v ps wr)(hb:Below wr.heap.size wr w'):Ub w0 tb B v ps w':=by
 have hs:=hb.size
 have h0:=h.below.size
 exact⟨(hb.block tb h.lt).trans h.box,own_below h.own hb,fun p hp=>⟨(h.kids p hp).1,((h.kids p hp).2.kept fun k hk=>hb.block k hk.2.1).mono fun k hk=>⟨hk.1,by have:=hk.2.1;omega,hk.2.2⟩⟩,h.CG,h.below.trans (hb.mono h0),h.tb0,h.B0⟩
theorem Ub.step {w0 w3 w5:World} {tb B g' cap sz:Nat} {v:Value} {ps xs:List TP} (h:Ub w0 tb B v ps w3)(hg5:w3.grownBy w5 v.ownBlock)
 (iJ:w5.ownsRow B 71 5 (.slice (some ⟨g',0,none⟩) (ps.length+xs.length) cap) (ps.length+xs.length) (ed ps++ed xs))
 (hat:(Value.slice (some ⟨g',0,none⟩) (ps.length+xs.length) cap).ownBlock=v.ownBlock∨∃ n,(Value.slice (some ⟨g',0,none⟩) (ps.length+xs.length) cap).ownBlock=some n∧w3.heap.size≤n)
 (hx:∀ p∈xs,p.1.kids.length≤p.2.2∧mQ w3 (fun k=>sz≤k∧k<w3.heap.size) p.2.1 p.1.kids)(hsz:B≤sz)(htb:tb<sz)(hv:∀ k,v.ownBlock=some k→k<sz) :
 Ub w0 tb B (.slice (some ⟨g',0,none⟩) (ps.length+xs.length) cap) (ps++xs) (w5.setCell ⟨tb,3,none⟩ (.slice (some ⟨g',0,none⟩) (ps.length+xs.length) cap)):=by
 have hs5:=hg5.size
 have hlt:=h.lt
 have h2:∀ k,v.ownBlock=some k→B≤k∧k<w3.heap.size:=fun k e=>h.own.lt k e
 have hne:g'≠tb:=fun e=>by
  rcases hat with h'|⟨n,h',hn⟩
  ·exact h.CG (by rw[←h',←e];rfl)
  ·have:n=g':=by simpa [Value.ownBlock] using h'.symm
   omega
 have hoth:∀ k,k≠tb→k<w3.heap.size→v.ownBlock≠some k→(w5.setCell ⟨tb,3,none⟩ (.slice (some ⟨g',0,none⟩) (ps.length+xs.length) cap)).heap[k]?=w3.heap[k]?:=fun k a1 a2 a3 =>
  (aI w5 ⟨tb,3,none⟩ _ k a1).trans (hg5.block k a2 fun e=>a3 e.symm)
 have hz:(w5.setCell ⟨tb,3,none⟩ (.slice (some ⟨g',0,none⟩) (ps.length+xs.length) cap)).heap.size=w5.heap.size:=by simp[World.setCell]
 have hvv:∀ k,k<w3.heap.size→v.ownBlock≠some k→(Value.slice (some ⟨g',0,none⟩) (ps.length+xs.length) cap).ownBlock≠some k:=fun k a1 a2=>by
  rcases hat with h|⟨n,h,hn⟩
  ·rw[h];exact a2
  ·rw[h];intro e;have:=aY e;omega
 refine⟨nP (k:=3) ((hg5.block tb hlt fun e=>h.CG e.symm).trans h.box),?_,?_,by simpa [Value.ownBlock] using hne,?_,h.tb0,h.B0⟩
 ·rw[aZ,jv]
  exact nK iJ (aI w5 ⟨tb,3,none⟩ _ g' hne)
 ·intro p hp
  rcases cu.1 hp with hp|hp
  ·obtain⟨k1,k2⟩:=h.kids p hp
   exact⟨k1,(k2.kept fun k hk=>hoth k hk.2.2.2 hk.2.1 hk.2.2.1).mono fun k hk=>⟨hk.1,by have:=hk.2.1;omega,hvv k hk.2.1 hk.2.2.1,hk.2.2.2⟩⟩
  ·obtain⟨k1,k2⟩:=hx p hp
   have a2:∀ k,sz≤k→v.ownBlock≠some k:=fun k hk e=>by have:=hv k e;omega
   exact⟨k1,(k2.kept fun k hk=>hoth k (by have:=hk.1;omega) hk.2 (a2 k hk.1)).mono fun k hk=>⟨by have:=hk.1;omega,by have:=hk.2;omega,hvv k hk.2 (a2 k hk.1),by have:=hk.1;omega⟩⟩
 ·have hb0:=h.B0
  have ht0:=h.tb0
  exact (h.below.grown hg5 h.below.size (fun k e=>by have:=(h2 k e).1;omega)).setCell (p:=⟨tb,3,none⟩) ht0 _
def Xk (w0:World)(tb B:Nat)(L:List T)(wr:World):Prop:=∃ (v:Value)(ps:List TP),Ub w0 tb B v ps wr∧ps.map Prod.fst=L
theorem KQ (s:ByteArray)(w:World):Calls Tryz.prog 66 #[.string s] w fun e w'=>e=.returned (.agg #[.int .i64 2,.string s,.int .i64 0,.slice none 0 0,.int .i64 0])∧Below w.heap.size w w':=by
 go_enter Tryz.func66,Tryz.ntmps66
 go_wp2_with fail
 refine aJ (jw rfl rfl (aH w _)) rfl ?_
 exact⟨rfl,(aG _ _).alloc (aF _) _⟩
theorem open_any (A:Option Addr)(n c:Nat)(w:World):Calls Tryz.prog 65 #[.slice A n c] w fun e w'=>e=.returned (.agg #[.int .i64 1,.string ⟨#[]⟩,.int .i64 0,.slice A n c,.int .i64 0])∧Below w.heap.size w w':=by
 go_enter Tryz.func65,Tryz.ntmps65
 go_wp2_with fail
 refine aJ (jw rfl rfl (aH w _)) rfl ?_
 exact⟨rfl,(aG _ _).alloc (aF _) _⟩
theorem Rz {w0 w2:World} (hb:Below w0.heap.size w0 w2):Ub w0 w2.heap.size w2.heap.size (.slice none 0 0) [] (w2.alloc (.cells #[.int .i64 1,.string ⟨#[]⟩,.int .i64 0,.slice none 0 0,.int .i64 0] 71)) :=
 ⟨aH w2 _,⟨rfl,.inl ⟨rfl,rfl⟩⟩,fun p hp=>(by cases hp),(by simp[Value.ownBlock]),hb.alloc hb.size _,hb.size,hb.size⟩
theorem Lies.at_ {w:World} {S:Nat→Prop} {A:Option Addr} {l:List ByteArray} (h:Lies w S A (strs l)) {j:Nat} {x:ByteArray} (hx:l[j]?=some x):∃ b o,A=some ⟨b,o,none⟩∧S b∧w.cell? ⟨b,o+j,none⟩=some (.string x):=by
 rcases h with h|⟨b,o,hA,hb,hc⟩
 ·have:l=[]:=by simpa [strs] using h
  subst this
  simp at hx
 ·exact⟨b,o,hA,hb,hc j _ (by rw[strs,bP,hx];rfl)⟩
theorem get_some {α:Type} {l:List α} {j n:Nat} (h:n=l.length)(hj:j<n):∃ x,l[j]?=some x:=⟨_,aO (by omega)⟩
theorem take_snoc {α:Type} {l:List α} {j:Nat} {x:α} (h:l[j]?=some x):l.take (j+1)=l.take j++[x]:=by rw[List.take_add_one,h];rfl
theorem Ql {w0 wr:World} {tb B:Nat} {v:Value} {ps:List TP} (h:Ub w0 tb B v ps wr)(hl:ps.length≤9223372036854775807):∃ A c,v=.slice A (ps.map Prod.fst).length c∧(ps.map Prod.fst).length≤c∧mQ wr (fun k=>w0.heap.size≤k∧k<wr.heap.size) A (ps.map Prod.fst):=by
 have h0:=h.B0
 exact rP h.own hl (fun k k1 k2=>⟨by omega,k2⟩) (fun p hp=>⟨(h.kids p hp).1,(h.kids p hp).2.mono fun k hk=>⟨by have:=hk.1;omega,hk.2.1⟩⟩)
theorem AL {j n:Nat} (h:j<n):n-(intOf (Value.int .i64 ((j:Int)+1))).toNat<n-(intOf (Value.int .i64 (j:Int))).toNat:=by
 simp[intOf];omega
def pF (w:World)(t:T)(e:Ending)(w':World):Prop:=(∃ A c,e=.returned (t.val A c)∧t.kids.length≤c∧mQ w' (fun k=>w.heap.size≤k∧k<w'.heap.size) A t.kids)∧Below w.heap.size w w'
theorem KR {w w1 wr:World} {A:Option Addr} {c p:Nat} {L:List T} {x0 x1 x2 x3 x4:Value} (h1:w.heap.size<w1.heap.size)(hb:Below w.heap.size w w1)(hr:Below w1.heap.size w1 wr)(hc:L.length≤c)(hX:mQ wr (fun k=>w1.heap.size≤k∧k<wr.heap.size) A L)(hp:p=w.heap.size)
 (hx:x0=.int .i64 1∧x1=.string ⟨#[]⟩∧x2=.int .i64 0∧x3=.slice A L.length c∧x4=.int .i64 0):pF w (jM L) (.returned (.agg #[x0,x1,x2,x3,x4])) (J4 wr p x0 x1 x2 x3 x4):=by
 obtain⟨rfl,rfl,rfl,rfl,rfl⟩:=hx
 subst hp
 refine⟨⟨A,c,rfl,hc,?_⟩,dS (hb.trans (hr.mono (bV h1))) (aF _)⟩
 exact (hX.kept (fun k hk=>nS (by have:=hk.1;omega))).mono (fun k hk=>⟨by have:=hk.1;omega,by rw[rQ];exact hk.2⟩)
theorem UX (l:List ByteArray)(hl:l.length≤600)(A:Option Addr)(c:Nat)(w:World)(hL:Lies w (fun k=>k<w.heap.size) A (strs l)) :
 Calls Tryz.prog 68 #[.slice A l.length c] w (pF w (iO l)):=by
 obtain⟨ln,rH⟩:∃ ln,ln=l.length:=⟨_,rfl⟩
 obtain⟨w1,dZ⟩:∃ w1,w1=w.alloc (.cells #[.int .i64 0,.string ⟨#[]⟩,.int .i64 0,.slice none 0 0,.int .i64 0] 71):=⟨_,rfl⟩
 have hb1:Below w.heap.size w w1:=by rw[dZ];exact (aG _ _).alloc (aF _) _
 have hs1:w.heap.size<w1.heap.size:=by rw[dZ];simp
 have hr1:w1.heap[w.heap.size]?=some (.cells #[.int .i64 0,.string ⟨#[]⟩,.int .i64 0,.slice none 0 0,.int .i64 0] 71 (0,0)):=by rw[dZ];exact aH w _
 have kC:=ae rH
 have HL:=ae hL
 have HB1:=ae hb1
 have HR1:=ae hr1
 have HW1:=ae dZ
 have hop:=ae (open_any none 0 0 w1)
 obtain⟨i0,hi,hz0,hz1,hz2⟩:=info_parts pO
 rw[←rH] at hl ⊢
 clear rH hL dZ hb1 hr1
 go_enter Tryz.func68,Tryz.ntmps68
 go_upto_region 1 with (fail)
 rw[←HW1.o]
 go_wp2_with fail
 refine (hop.o).mono ?_
 rintro e w2 ⟨rfl,hb2⟩
 have HB2:=ae hb2
 have HS:=ae (Rz hb2)
 clear hb2
 go_wp2_with fail
 go_loopw [9] (fun i wr=>∃ j:Nat,j≤ln∧i=.int .i64 j∧Xk w1 w2.heap.size w2.heap.size ((l.take j).map gz) wr) (fun i _=>ln-(intOf i).toNat)
 case atStart=>exact⟨0,aX _,rfl,_,[],HS.o,by simp⟩
 case round =>
  obtain⟨j,hj,rfl,v,ps,hK,hps⟩:=hrel
  have HK:=ae hK
  have uK:=ae hps
  have hpl:=ae (show ps.length=j by have:=congrArg List.length hps;rw[bM,bM,List.length_take,←kC.o] at this;omega)
  clear hK hps
  by_cases hlt:j<ln
  ·obtain⟨x,hx⟩:=get_some kC.o hlt
   obtain⟨b,o,rfl,hb,hcell⟩:=HL.o.at_ hx
   have hcx:wr.cell? ⟨b,o+j,none⟩=some (.string x):=((HB1.o.trans (HK.o.below.mono (bV hs1))).cell hb).trans hcell
   have HA:=ae (KQ x wr.drew)
   have htk:=ae (take_snoc hx)
   have Nv:j≤600:=aS hj hl
   have KT:=ae (fun k (e:v.ownBlock=some k)=>(HK.o.own.lt k e).2)
   have g0:=(dN HK.o.box).1.2.2.2.1
   clear hcell hx
   go_upto_region 5 with (fail)
   go_region_law (first
    | (refine step_append_lies _ rfl _ _ _ rfl w2.heap.size 71 i0 _ 5 64 Tryz.underlying69 hi hz0 hz1 hz2 rfl (by decide) _ _ _ rfl (RF.o.own.alloc _) ⟨w3.heap.size,0,none⟩ 1 1 (TP.cs ((.mk 2 x 0 [] 0:T),none,0)) rfl rfl (bz (aH w3 _)) (by rw[←fB];exact fF _) (by decide) (oq hpl.o Nv) (lX hpl.o Nv (by decide)) hsz3.o _ rfl ?_;intro g' cap w5 hown5 hgrow hat Au
       have jq:=ae hown5
       have sW:Hid (w3.grownBy w5 v.ownBlock):=ae ((World.grownBy_alloc _ _ _).trans hgrow)
       have jP:Hid ((Value.slice (some ⟨g',0,none⟩) (ps.length+1) cap).ownBlock=v.ownBlock∨∃ n,(Value.slice (some ⟨g',0,none⟩) (ps.length+1) cap).ownBlock=some n∧w3.heap.size≤n):=ae (hat.imp (fun h=>h.symm) fun h=>⟨g',rfl,by rw[h];exact (dV w3 _ _).size⟩)
       have NT:=ae ((sW.o.block w2.heap.size RF.o.lt (fun e=>RF.o.CG e.symm)).trans RF.o.box)
       obtain⟨⟨p0,p1,p2,p3,p4⟩,q0,q1,q2,q3,q4⟩:=dN NT.o
       clear hown5 hgrow hat)
    | (go_simp;go_at_call 66;refine (HA.o).mono ?_;rintro e w3 ⟨rfl,hb3⟩
       have RF:=ae (HK.o.bel (((aG _ _).drew).trans hb3))
       have hsz3:Hid (w2.heap.size≤(w3.alloc (.cells #[.int .i64 2,.string x,.int .i64 0,.slice none 0 0,.int .i64 0] 71)).heap.size):=ae (aS (bV RF.o.lt) (dV w3 _ _).size)
       have g3:w3.cell? ⟨w2.heap.size,3,none⟩=some v:=(dN RF.o.box).1.2.2.2.1
       have Ua:(w3.alloc (.cells #[.int .i64 2,.string x,.int .i64 0,.slice none 0 0,.int .i64 0] 71)).cell? ⟨w2.heap.size,3,none⟩=some v:=(World.cell?_alloc_some _ _ _ (by rw[g3];rfl)).trans g3
       have hs3:=ae hb3.size
       clear hb3))
   all_goals
    go_wp2_with fail
    go_roundw
    case measure=>exact AL hlt
    case rel =>
     refine⟨j+1,hlt,by simp,_,ps++[((.mk 2 x 0 [] 0:T),none,0)],RF.o.step (xs:=[((.mk 2 x 0 [] 0:T),none,0)]) (sz:=wr.heap.size) sW.o (by rw[fB];exact jq.o) jP.o (rX x _ _) (bV HK.o.lt) HK.o.lt KT.o,?_⟩
     rw[List.map_append,uK.o,htk.o,List.map_append]
     rfl
  ·have he:Hid (ps.map Prod.fst=l.map gz):=ae (by rw[uK.o,bJ (by have:=kC.o;omega)])
   obtain⟨A9,c9,rfl,IV,yu⟩:=Ql HK.o (by have:=hpl.o;omega)
   rw[he.o] at IV yu
   have HK9:=ae HK.o.box
   rw[he.o] at HK9
   have GI:=ae yu
   have G8:=ae ((HK.o.below.block _ hs1).trans HR1.o)
   have gZ:=ae HK.o.below
   obtain⟨⟨k0,k1,k2,k3,k4⟩,f0,f1,f2,f3,f4⟩:=dN HK9.o
   obtain⟨⟨q0,q1,q2,q3,q4⟩,e0,e1,e2,e3,e4⟩:=dN G8.o
   clear HK yu hpl
   go_wp2_with fail
   refine aJ (jw rfl rfl (dR G8.o)) rfl ?_
   exact KR hs1 HB1.o gZ.o IV GI.o rfl ⟨rfl,rfl,rfl,by rw[bM],rfl⟩
theorem LU {ops:Array Oper} {a:Act} {w:World} {K:Act→World→Prop} {Q:Exit→Act→World→Prop} {E:Prop} (o:Oper)(hg:o.guard=none)(x:Tmp)(ho:o.op=.buildSlice 69 1 #[(0,.tmp x)])
 (k n l:Int)(s:ByteArray)(A:Option Addr)(m c:Nat)(hv:a.eval (.tmp x)=.agg #[.int .i64 k,.string s,.int .i64 n,.slice A m c,.int .i64 l])
 (h:K (a.put o.dst (.slice (some ⟨w.heap.size,0,none⟩) 1 1)) (w.alloc (.cells #[.int .i64 k,.string s,.int .i64 n,.slice A m c,.int .i64 l] 71))) :
 if Region.wanted o (yielded ops a.tmps)=true then Oper.wp Tryz.prog o a w K Q else E:=by
 have hw:Region.wanted o (yielded ops a.tmps)=true:=by simp[Region.wanted,hg]
 rw[if_pos hw]
 have hv':a.tmps[x]?.getD undef=.agg #[.int .i64 k,.string s,.int .i64 n,.slice A m c,.int .i64 l]:=by simpa [Act.eval] using hv
 clear hv hw
 obtain⟨d,op,ty,p,af,gd⟩:=o
 simp only at ho hg h
 subst ho hg
 go_simp
 exact h
theorem vV {ops:Array Oper} {a:Act} {w:World} {K:Act→World→Prop} {Q:Exit→Act→World→Prop} {E:Prop} (o:Oper)(hg:o.guard=none)(ho:o.op=.buildSlice 69 1 #[(0,.const (.agg #[.int .i64 0,.string ⟨#[]⟩,.int .i64 0,.slice none 0 0,.int .i64 0]))])
 (h:K (a.put o.dst (.slice (some ⟨w.heap.size,0,none⟩) 1 1)) (w.alloc (.cells #[.int .i64 0,.string ⟨#[]⟩,.int .i64 0,.slice none 0 0,.int .i64 0] 71))) :
 if Region.wanted o (yielded ops a.tmps)=true then Oper.wp Tryz.prog o a w K Q else E:=by
 have hw:Region.wanted o (yielded ops a.tmps)=true:=by simp[Region.wanted,hg]
 rw[if_pos hw]
 clear hw
 obtain⟨d,op,ty,p,af,gd⟩:=o
 simp only at ho hg h
 subst ho hg
 go_simp
 exact h
theorem sF (w:World)(k:Int)(s:ByteArray)(n:Int)(A:Option Addr)(m c:Nat)(a:Int):(w.alloc (.cells #[.int .i64 k,.string s,.int .i64 n,.slice A m c,.int .i64 a] 86)).heap[w.heap.size]?=some (.cells #[.int .i64 k,.string s,.int .i64 n,.slice A m c,.int .i64 a] 86 (0,0)):=aH w _
theorem Lj (t:T)(A:Option Addr)(c:Nat)(w:World)(hA:fA w w.heap.size A t.kids) :
 Calls Tryz.prog 82 #[t.val A c] w fun e w'=>e=.returned (.string (lh t))∧Below w.heap.size w w':=by
 obtain⟨k,s,n,l,a⟩:=t
 change fA w w.heap.size A l at hA
 rw[show lh (.mk k s n l a)=uy k l from rfl]
 simp only[T.val,T.k,T.s,T.n,T.kids,T.at_]
 have hb0:=dV w #[.int .i64 k,.string s,.int .i64 n,.slice A l.length c,.int .i64 a] 86
 have hlen:=hA.len
 by_cases h1:k=1
 ·subst h1
  by_cases h2:l.length=0
  ·obtain rfl:l=[]:=bF h2
   rw[show uy 1 []=⟨#[]⟩ from rfl]
   have HB0:=ae hb0
   clear hb0 hA hlen h2
   simp only[List.length_nil] at *
   go_enter Tryz.func82,Tryz.ntmps82
   go_wp2_with fail
   go_ret
   exact⟨rfl,HB0.o⟩
  ·obtain⟨x,hx⟩:∃ x,l[0]?=some x:=⟨_,aO (by omega)⟩
   obtain⟨b,o,A',c',rfl,hb,c1,c2,c3,c4,c5,hc',hK⟩:=hA.gy _ (aG _ _) 0 x hx
   rw[Nat.zero_mul,Nat.add_zero] at c1 c2
   have d1:=(hb0.cell hb).trans c1
   have d2:=(hb0.cell hb).trans c2
   have hw:uy 1 l=if x.k=2 then x.s else ⟨#[]⟩:=by
    cases l with
    | nil=>simp at hx
    | cons y l =>
      simp at hx;subst hx
      show (if (1:Int)=1∧y.k=2 then y.s else ⟨#[]⟩)=_
      by_cases e:y.k=2
      ·rw[if_pos ⟨rfl,e⟩,if_pos e]
      ·rw[if_neg (fun h=>e h.2),if_neg e]
   rw[hw]
   have HB0:=ae hb0
   clear hb0 hA hK hc' hx c3 c4 c5 hw
   generalize l.length=m at *
   have h2':(0:Int)<(m:Int):=by omega
   have adg:decide ((0:Int)<(m:Int))=true:=decide_eq_true h2'
   by_cases hx2:x.k=2
   ·rw[if_pos hx2]
    rw[hx2] at c1 d1
    generalize x.s=xs at *
    clear hx2 x
    go_enter Tryz.func82,Tryz.ntmps82
    go_wp2_with fail
    go_ret
    exact⟨rfl,HB0.o⟩
   ·rw[if_neg hx2]
    generalize x.s=xs at *
    generalize x.k=xk at *
    have Uo:(xk==2)=false:=by simpa using hx2
    clear x
    go_enter Tryz.func82,Tryz.ntmps82
    go_wp2_with fail
    go_ret
    exact⟨rfl,HB0.o⟩
 ·have h1':(k==1)=false:=by simpa using h1
  rw[show uy k l=⟨#[]⟩ from by
   cases l with
   | nil=>rfl
   | cons x l=>exact if_neg fun h=>h1 h.1]
  have HB0:=ae hb0
  clear hb0 hA
  generalize l.length=m at *
  go_enter Tryz.func82,Tryz.ntmps82
  go_wp2_with fail
  go_ret
  exact⟨rfl,HB0.o⟩
def allA (l:List T):Bool:=l.all fun x=>x.k==2
theorem SA {l:List T} {k:Nat} {x:T} (hx:l[k]?=some x):allA (l.drop k)=((x.k==2)&&allA (l.drop (k+1))):=by
 obtain⟨h1,e1⟩:=aV.1 hx
 rw[bY h1,e1]
 rfl
theorem tY (A:Option Addr)(c:Nat)(l:List T)(w:World)(hA:fA w w.heap.size A l) :
 Calls Tryz.prog 125 #[.slice A l.length c] w fun e w'=>e=.returned (.bool (allA l))∧w=w':=by
 have hn:=hA.len
 have HL:=ae hA.gy
 obtain⟨n,en⟩:∃ n,n=l.length:=⟨_,rfl⟩
 have Hl:=ae en
 rw[←en] at hn ⊢
 clear hA en
 go_enter Tryz.func125,Tryz.ntmps125
 go_wp2_with fail
 go_loopw [3] (fun i wr=>∃ k:Nat,k≤n∧i=.int .i64 k∧wr=w∧Hid (allA l=allA (l.drop k))) (fun i _=>n-(intOf i).toNat)
 case atStart=>exact⟨0,aX _,rfl,rfl,ae (by rw[List.drop_zero])⟩
 case round =>
  obtain⟨k,hk,rfl,rfl,hz⟩:=hrel
  by_cases hlt:k<n
  ·obtain⟨x,hx⟩:∃ x,l[k]?=some x:=⟨_,aO (by rw[←Hl.o];exact hlt)⟩
   have hst:=ae (hz.o.trans (SA hx))
   obtain⟨b,o,A',c',rfl,hb,c1,c2,c3,c4,c5,hc',hK⟩:=HL.o wr (aG _ _) k x hx
   clear hx hz hK c2 c3 c4 c5 hc'
   generalize x.k=xk at *
   by_cases he:xk=2
   ·subst he
    have hst':Hid (allA l=allA (l.drop (k+1))):=ae (hst.o.trans (Bool.true_and _))
    clear hst
    go_wp2_with fail
    go_roundw
    case rel=>exact⟨k+1,by omega,by go_num,by first|rfl|trivial,hst'⟩
    case measure=>simp[intOf];omega
   ·have he1:(xk==2)=false:=by simpa using he
    have he2:(xk != 2)=true:=by simpa using he
    have hst':Hid (allA l=false):=ae (by rw[hst.o,he1,Bool.false_and])
    clear hst he
    go_wp2_with fail
    go_ret
    exact⟨by rw[hst'.o];rfl,by first|rfl|trivial⟩
  ·have e:k=n:=by omega
   subst e
   have hst':Hid (allA l=true):=ae (by rw[hz.o,bW (by rw[←Hl.o];omega)];rfl)
   clear hz
   go_wp2_with fail
   go_ret
   exact⟨by rw[hst'.o];rfl,by first|rfl|trivial⟩
theorem xW (t:T):jy t=(t.k==1&&allA t.kids):=rfl
structure St where
 ps:List TP
 dn:List TP
 A:Option Addr
 c:Nat
 B:Option Addr
 cB:Nat
def bk (A:Option Addr)(k:Nat):Prop:=∃ ad:Addr,A=some ad∧ad.block=k
theorem lQ {g o k:Nat}:bk (some ⟨g,o,none⟩) k↔g=k:=⟨fun ⟨ad,e,h⟩=>by injection e with e;subst e;exact h,fun h=>⟨_,rfl,h⟩⟩
theorem pJ {k:Nat}:¬bk none k:=fun ⟨_,e,_⟩=>by cases e
theorem VT {A:Option Addr} {n c k:Nat}:bk A k↔(Value.slice A n c).ownBlock=some k:=by
 cases A with
 | none=>exact⟨fun h=>absurd h pJ,fun h=>by simp[Value.ownBlock] at h⟩
 | some ad=>exact⟨fun ⟨a,e,h⟩=>by injection e with e;subst e;simpa [Value.ownBlock] using h,fun h=>⟨ad,rfl,by simpa [Value.ownBlock] using h⟩⟩
def St.live (σ:St)(k:Nat):Prop:=bk σ.A k∨bk σ.B k∨∃ p∈σ.ps,bk p.2.1 k
def St.free (σ:St)(b0:Nat)(w:World)(k:Nat):Prop:=b0≤k∧k<w.heap.size∧¬σ.live k
structure RInv (s:ByteArray)(w:World) (σ:St)(w':World):Prop where
 low:Below w.heap.size w w'
 size:w.heap.size+2≤w'.heap.size
 res:w'.heap[w.heap.size]?=some (.cells #[.int .i64 0,.string ⟨#[]⟩,.int .i64 0,.slice none 0 0,.int .i64 0] 71 (0,0))
 rd:w'.heap[w.heap.size+1]?=some (.cells #[.string s,.slice σ.A σ.ps.length σ.c,.slice σ.B σ.dn.length σ.cB] 102 (0,0))
 own:w'.ownsRow (w.heap.size+2) 71 5 (.slice σ.A σ.ps.length σ.c) σ.ps.length (ed σ.ps)
 ZX:w'.ownsRow (w.heap.size+2) 71 5 (.slice σ.B σ.dn.length σ.cB) σ.dn.length (ed σ.dn)
 ab:∀ k,bk σ.A k→¬bk σ.B k
 ak:∀ p∈σ.ps,∀ k,bk p.2.1 k→¬bk σ.A k∧¬bk σ.B k
 kk:∀ (i j:Nat)(p q:TP),σ.ps[i]?=some p→σ.ps[j]?=some q→i≠j→∀ k,bk p.2.1 k→¬bk q.2.1 k
 kid:∀ p∈σ.ps,∃ qs:List TP,qs.map Prod.fst=p.1.kids∧w'.ownsRow (w.heap.size+2) 71 5 (.slice p.2.1 p.1.kids.length p.2.2) p.1.kids.length (ed qs) ∧
  ∀ q∈qs,q.1.kids.length≤q.2.2∧mQ w' (σ.free (w.heap.size+2) w') q.2.1 q.1.kids
 YG:∀ q∈σ.dn,q.1.kids.length≤q.2.2∧mQ w' (σ.free (w.heap.size+2) w') q.2.1 q.1.kids
 od:σ.ps=[]∨σ.dn=[]
 bn:σ.dn=[]→σ.B=none∧σ.cB=0
theorem lS {w w':World} {base n c z:Nat} {A:Option Addr} {e:TypeId} {xs:List Value} (h:w.ownsRow base e z (.slice A n c) n xs)(hb:∀ k,bk A k→w'.heap[k]?=w.heap[k]?):w'.ownsRow base e z (.slice A n c) n xs:=by
 refine⟨h.1,?_⟩
 rcases h.2 with hn|⟨g',cap,cur,e1,hg,hgg,rest⟩
 ·exact .inl hn
 ·exact .inr ⟨g',cap,cur,e1,hg,by rw[hb g' (VT.2 (by rw[e1];rfl))];exact hgg,rest⟩
theorem jZ {w:World} {base n c z k:Nat} {A:Option Addr} {e:TypeId} {xs:List Value} (h:w.ownsRow base e z (.slice A n c) n xs)(hk:bk A k):base≤k∧k<w.heap.size:=h.lt k (VT.1 hk)
theorem ku {w w':World} {S S':Nat→Prop} {A:Option Addr} {l:List T} (h:mQ w S A l)(h1:∀ k,S k→w'.heap[k]?=w.heap[k]?)(h2:∀ k,S k→S' k):mQ w' S' A l:=(h.kept h1).mono h2
theorem O9 {w:World} {base:Nat} {e:TypeId} {A:Option Addr} {c:Nat} {l:List TP} (h:w.ownsRow base e 5 (.slice A l.length c) l.length (ed l))(hn:l.length≤9223372036854775807) {S:Nat→Prop} (hS:∀ g,bk A g→S g)(hk:∀ x∈l,x.1.kids.length≤x.2.2∧mQ w S x.2.1 x.1.kids) :
 (l.map Prod.fst).length≤c∧mQ w S A (l.map Prod.fst):=by
 obtain⟨_,hcase⟩:=id h
 rcases hcase with⟨e1,h0⟩|⟨g,cap,cur,e1,hg,hh,hc,hcap,hsz,htake⟩
 ·have e0:l=[]:=bF h0
  subst e0
  exact⟨aX _,.nil _⟩
 ·injection e1 with e2 e3 e4
  subst e2 e4
  refine⟨by rw[bM];exact hc,.mk g 0 _ (by rw[bM];exact hn) (hS g (lQ.2 rfl)) (fun i=>((l[i]?).map fun x=>x.2.1).getD none) (fun i=>((l[i]?).map fun x=>x.2.2).getD 0) (fun i x hx=>?_) (fun i x hx=>?_)⟩
  ·rw[bP] at hx
   cases hl:l[i]? with
   | none=>rw[hl] at hx;cases hx
   | some y =>
     rw[hl] at hx
     obtain rfl:y.1=x:=by simpa using hx
     obtain⟨f1,f2,f3,f4,f5⟩:=pM l i y hl
     have hi:i<l.length:=(aV.1 hl).1
     rw[Nat.zero_add,h.cellAt _ (by omega),h.cellAt _ (by omega),h.cellAt _ (by omega),h.cellAt _ (by omega),h.cellAt _ (by omega)]
     exact⟨f1,f2,f3,f4,f5,(hk y (aN hl)).1⟩
  ·rw[bP] at hx
   cases hl:l[i]? with
   | none=>rw[hl] at hx;cases hx
   | some y =>
     rw[hl] at hx
     obtain rfl:y.1=x:=by simpa using hx
     exact (hk y (aN hl)).2
section
variable {s:ByteArray} {w w1 w2:World} {σ:St}
theorem RInv.below (h:RInv s w σ w1)(hb:Below w1.heap.size w1 w2):RInv s w σ w2:=by
 have hs:=hb.size
 have hz:=h.size
 have hfree:∀ k,σ.free (w.heap.size+2) w1 k→w2.heap[k]?=w1.heap[k]?:=fun k hk=>hb.block k hk.2.1
 have hmono:∀ k,σ.free (w.heap.size+2) w1 k→σ.free (w.heap.size+2) w2 k:=fun k hk=>⟨hk.1,by have:=hk.2.1;omega,hk.2.2⟩
 refine⟨h.low.trans (hb.mono (by omega)),by omega,(hb.block _ (by omega)).trans h.res,(hb.block _ (by omega)).trans h.rd,own_below h.own hb,own_below h.ZX hb,h.ab,h.ak,h.kk,fun p hp=>?_,fun q hq=>?_,h.od,h.bn⟩
 ·obtain⟨qs,e,ho,hx⟩:=h.kid p hp
  exact⟨qs,e,own_below ho hb,fun q hq=>⟨(hx q hq).1,ku (hx q hq).2 hfree hmono⟩⟩
 ·exact⟨(h.YG q hq).1,ku (h.YG q hq).2 hfree hmono⟩
theorem RInv.push (h:RInv s w σ w1)(hdn:σ.dn=[]) {t:T} (ht:t.kids=[])(he:x8 102 w1 w2 (w.heap.size+2) (w.heap.size+1) 1 #[.string s,.slice σ.A σ.ps.length σ.c,.slice σ.B σ.dn.length σ.cB] σ.A σ.ps.length σ.ps (t,none,0)) :
 ∃ g' cap',RInv s w { σ with ps:=σ.ps++[(t,none,0)],A:=some ⟨g',0,none⟩,c:=cap' } w2:=by
 obtain⟨g',cap',ho,hr,has,hg⟩:=he
 have hs:=has.size
 have hz:=h.size
 refine⟨g',cap',?_⟩
 have hb0:w.heap.size+2≤g':=(ho.lt g' rfl).1
 have hg2:∀ k,k<w1.heap.size→¬bk σ.A k→g'≠k:=fun k hk hn e=>by
  rcases hg with h1|h1
  ·exact hn (e ▸ h1)
  ·omega
 have hblk:∀ k,k<w1.heap.size→k≠w.heap.size+1→¬bk σ.A k→w2.heap[k]?=w1.heap[k]?:=fun k h1 h2 h3=>has.block k h1 fun hx=>hx.elim h2 h3
 have hfree:∀ k,σ.free (w.heap.size+2) w1 k→w2.heap[k]?=w1.heap[k]?:=fun k hk=>hblk k hk.2.1 (by have:=hk.1;omega) (fun e=>hk.2.2 (.inl e))
 have hmono:∀ k,σ.free (w.heap.size+2) w1 k→({ σ with ps:=σ.ps++[(t,none,0)],A:=some ⟨g',0,none⟩,c:=cap' }:St).free (w.heap.size+2) w2 k:=fun k hk=>⟨hk.1,by have:=hk.2.1;omega,fun hl=>by
  rcases hl with h1|h1|⟨p,hp,h1⟩
  ·exact hg2 k hk.2.1 (fun e=>hk.2.2 (.inl e)) (lQ.1 h1)
  ·exact hk.2.2 (.inr (.inl h1))
  ·rcases cu.1 hp with hp|hp
   ·exact hk.2.2 (.inr (.inr ⟨p,hp,h1⟩))
   ·obtain rfl:p=(t,none,0):=by simpa using hp
    exact pJ h1⟩
 have hkl:∀ p∈σ.ps,∀ k,bk p.2.1 k→w.heap.size+2≤k∧k<w1.heap.size:=fun p hp k hk=>by
  obtain⟨qs,_,ho,_⟩:=h.kid p hp
  exact jZ ho hk
 have hBl:∀ k,bk σ.B k→w.heap.size+2≤k∧k<w1.heap.size:=fun k hk=>jZ h.ZX hk
 refine⟨h.low.trans (has.below (by omega) fun b hx=>hx.elim (fun e=>by omega) (fun hx=>by have:=(jZ h.own hx).1;omega)),by omega,(hblk _ (by omega) (by omega) (fun e=>by have:=(jZ h.own e).1;omega)).trans h.res,?_,?_,lS h.ZX (fun k hk=>hblk k (hBl k hk).2 (by have:=(hBl k hk).1;omega) (fun e=>h.ab k e hk)),?_,?_,?_,?_,?_,.inr hdn,h.bn⟩
 ·rw[hr]
  simp
 ·simpa using ho
 ·intro k hk hB
  obtain rfl:=lQ.1 hk
  rcases hg with h1|h1
  ·exact h.ab _ h1 hB
  ·have:=(hBl _ hB).2;omega
 ·intro p hp k hk
  rcases cu.1 hp with hp|hp
  ·exact⟨fun e=>hg2 k (hkl p hp k hk).2 (h.ak p hp k hk).1 (lQ.1 e),(h.ak p hp k hk).2⟩
  ·obtain rfl:p=(t,none,0):=by simpa using hp
   exact absurd hk pJ
 ·intro i j p q hi hj hij k hk hq
  rcases Nat.lt_or_ge i σ.ps.length with hil|hil
  ·rcases Nat.lt_or_ge j σ.ps.length with hjl|hjl
   ·simp only[List.getElem?_append_left hil] at hi
    simp only[List.getElem?_append_left hjl] at hj
    exact h.kk i j p q hi hj hij k hk hq
   ·simp only[bK hjl] at hj
    have:=aN hj
    obtain rfl:q=(t,none,0):=by simpa using this
    exact pJ hq
  ·simp only[bK hil] at hi
   have:=aN hi
   obtain rfl:p=(t,none,0):=by simpa using this
   exact pJ hk
 ·intro p hp
  rcases cu.1 hp with hp|hp
  ·obtain⟨qs,e,ho2,hx⟩:=h.kid p hp
   exact⟨qs,e,lS ho2 (fun k hk=>hblk k (hkl p hp k hk).2 (by have:=(hkl p hp k hk).1;omega) (h.ak p hp k hk).1),fun q hq=>⟨(hx q hq).1,ku (hx q hq).2 hfree hmono⟩⟩
  ·obtain rfl:p=(t,none,0):=by simpa using hp
   refine⟨[],by rw[ht];rfl,?_,fun q hq=>by cases hq⟩
   show w2.ownsRow _ _ 5 (.slice none t.kids.length 0) t.kids.length (ed [])
   rw[ht]
   exact⟨rfl,.inl ⟨rfl,rfl⟩⟩
 ·intro q hq
  exact⟨(h.YG q hq).1,ku (h.YG q hq).2 hfree hmono⟩
theorem RInv.done (h:RInv s w σ w1)(hps:σ.ps=[])(hdn:σ.dn=[]) {x:TP} (hx:x.1.kids.length≤x.2.2∧mQ w1 (σ.free (w.heap.size+2) w1) x.2.1 x.1.kids)
 (he:x8 102 w1 w2 (w.heap.size+2) (w.heap.size+1) 2 #[.string s,.slice σ.A 0 σ.c,.slice none 0 0] none 0 [] x) :
 ∃ g' cap',RInv s w { σ with dn:=[x],B:=some ⟨g',0,none⟩,cB:=cap' } w2:=by
 obtain⟨g',cap',ho,hr,has,hg⟩:=he
 have hs:=has.size
 have hz:=h.size
 refine⟨g',cap',?_⟩
 have hge:w1.heap.size≤g':=by
  rcases hg with h1|h1
  ·exact absurd h1 pJ
  ·exact h1
 have hblk:∀ k,k<w1.heap.size→k≠w.heap.size+1→w2.heap[k]?=w1.heap[k]?:=fun k h1 h2=>has.block k h1 fun hx=>hx.elim h2 pJ
 have hfree:∀ k,σ.free (w.heap.size+2) w1 k→w2.heap[k]?=w1.heap[k]?:=fun k hk=>hblk k hk.2.1 (by have:=hk.1;omega)
 have hmono:∀ k,σ.free (w.heap.size+2) w1 k→({ σ with dn:=[x],B:=some ⟨g',0,none⟩,cB:=cap' }:St).free (w.heap.size+2) w2 k:=fun k hk=>⟨hk.1,by have:=hk.2.1;omega,fun hl=>by
  rcases hl with h1|h1|⟨p,hp,h1⟩
  ·exact hk.2.2 (.inl h1)
  ·have:=lQ.1 h1;have:=hk.2.1;omega
  ·exact hk.2.2 (.inr (.inr ⟨p,hp,h1⟩))⟩
 refine⟨h.low.trans (has.below (by omega) fun b hx=>hx.elim (fun e=>by omega) (fun hx=>absurd hx pJ)),by omega,(hblk _ (by omega) (by omega)).trans h.res,?_,lS h.own (fun k hk=>hblk k (jZ h.own hk).2 (by have:=(jZ h.own hk).1;omega)),?_,?_,?_,?_,?_,?_,.inl hps,fun e=>by cases e⟩
 ·rw[hr,hps]
  rfl
 ·exact ho
 ·intro k hk hB
  have:=(jZ h.own hk).2
  have:=lQ.1 hB
  omega
 ·intro p hp;simp only[hps] at hp;cases hp
 ·intro i j p q hi;simp only[hps] at hi;cases hi
 ·intro p hp;simp only[hps] at hp;cases hp
 ·intro q hq
  obtain rfl:q=x:=by simpa using hq
  exact⟨hx.1,ku hx.2 hfree hmono⟩
theorem RInv.abw (h:RInv s w σ w1) {m gO n:Nat} {cur:Array Value} {qs:List TP} {p x:TP} (hm:σ.ps.length=m+1)(hp:σ.ps[m]?=some p)(hA:σ.A=some ⟨gO,0,none⟩)(O7:w1.heap[gO]?=some (.cells cur 71 (0,0)))
 (hn:n=p.1.kids.length)(hqs:qs.map Prod.fst=p.1.kids)(hqk:∀ q∈qs,q.1.kids.length≤q.2.2∧mQ w1 (σ.free (w.heap.size+2) w1) q.2.1 q.1.kids)
 (hx:x.1.kids.length≤x.2.2∧mQ w1 (σ.free (w.heap.size+2) w1) x.2.1 x.1.kids)(he:VO w1 w2 (w.heap.size+2) gO (m*5+3) cur p.2.1 n qs x) :
 ∃ g' cap',RInv s w { σ with ps:=σ.ps.set m (p.1.kid x.1,some ⟨g',0,none⟩,cap') } w2:=by
 obtain⟨g',cap',ho,hr,has,hg⟩:=he
 subst hn
 have hs:=has.size
 have hz:=h.size
 have hpm:=aN hp
 have abx:m<σ.ps.length:=by omega
 refine⟨g',cap',?_⟩
 have ZW:=jZ h.own (k:=gO) (by rw[hA];exact lQ.2 rfl)
 have hkl:∀ p∈σ.ps,∀ k,bk p.2.1 k→w.heap.size+2≤k∧k<w1.heap.size:=fun p hp k hk=>by
  obtain⟨qs,_,ho,_⟩:=h.kid p hp
  exact jZ ho hk
 have hg2:∀ k,k<w1.heap.size→¬bk p.2.1 k→g'≠k:=fun k hk hn e=>by
  rcases hg with h1|h1
  ·exact hn (e ▸ h1)
  ·omega
 have hblk:∀ k,k<w1.heap.size→¬bk σ.A k→¬bk p.2.1 k→w2.heap[k]?=w1.heap[k]?:=fun k h1 h2 h3=>has.block k h1 fun hx=>hx.elim (fun e=>h2 (by rw[hA];exact lQ.2 e.symm)) h3
 have hfree:∀ k,σ.free (w.heap.size+2) w1 k→w2.heap[k]?=w1.heap[k]?:=fun k hk=>hblk k hk.2.1 (fun e=>hk.2.2 (.inl e)) (fun e=>hk.2.2 (.inr (.inr ⟨p,hpm,e⟩)))
 have hset:∀ q,q∈σ.ps.set m (p.1.kid x.1,some ⟨g',0,none⟩,cap')→(q=(p.1.kid x.1,some ⟨g',0,none⟩,cap'))∨∃ j,j≠m∧σ.ps[j]?=some q:=fun q hq=>by
  obtain⟨j,hj⟩:=List.mem_iff_getElem?.1 hq
  by_cases e:m=j
  ·subst e
   rw[List.getElem?_set_self abx] at hj
   exact .inl (aY hj).symm
  ·rw[List.getElem?_set_ne e] at hj
   exact .inr ⟨j,fun h=>e h.symm,hj⟩
 have hmono:∀ k,σ.free (w.heap.size+2) w1 k→({ σ with ps:=σ.ps.set m (p.1.kid x.1,some ⟨g',0,none⟩,cap') }:St).free (w.heap.size+2) w2 k:=fun k hk=>⟨hk.1,by have:=hk.2.1;omega,fun hl=>by
  rcases hl with h1|h1|⟨q,hq,h1⟩
  ·exact hk.2.2 (.inl h1)
  ·exact hk.2.2 (.inr (.inl h1))
  ·rcases hset q hq with rfl|⟨j,_,hj⟩
   ·exact hg2 k hk.2.1 (fun e=>hk.2.2 (.inr (.inr ⟨p,hpm,e⟩))) (lQ.1 h1)
   ·exact hk.2.2 (.inr (.inr ⟨q,aN hj,h1⟩))⟩
 have hBl:∀ k,bk σ.B k→w.heap.size+2≤k∧k<w1.heap.size:=fun k hk=>jZ h.ZX hk
 have hdn:σ.dn=[]:=by
  rcases h.od with h1|h1
  ·rw[h1] at hm;cases hm
  ·exact h1
 refine⟨h.low.trans (has.below (by omega) fun b hx=>hx.elim (fun e=>by omega) (fun hx=>by have:=(hkl p hpm b hx).1;omega)),by omega,(hblk _ (by omega) (fun e=>by have:=(jZ h.own e).1;omega) (fun e=>by have:=(hkl p hpm _ e).1;omega)).trans h.res,
  ?_,?_,lS h.ZX (fun k hk=>hblk k (hBl k hk).2 (fun e=>h.ab k e hk) (fun e=>(h.ak p hpm k e).2 hk)),h.ab,?_,?_,?_,?_,.inr hdn,h.bn⟩
 ·rw[(hblk _ (by omega) (fun e=>by have:=(jZ h.own e).1;omega) (fun e=>by have:=(hkl p hpm _ e).1;omega)).trans h.rd]
  simp
 ·obtain⟨h1,h2⟩:=h.own
  refine⟨by rw[jg],.inr ?_⟩
  rcases h2 with⟨_,h'⟩|⟨g3,cap3,aif,e3,hb3,hg3,hnc,hcm,hcs,htake⟩
  ·rw[hm] at h';cases h'
  ·rw[hA] at e3
   simp only[Value.slice.injEq,Option.some.injEq,Addr.mk.injEq,and_true,true_and] at e3
   obtain⟨rfl,e4⟩:=e3
   rw[O7] at hg3
   have hcc:cur=aif:=by injection hg3 with hg3;injection hg3
   subst hcc
   refine⟨gO,σ.c,_,by simp only[hA,List.length_set],hb3,hr,by rw[e4];simpa using hnc,by rw[e4];exact hcm,by rw[Array.size_setIfInBounds,hcs,e4],?_⟩
   rw[Array.toList_setIfInBounds,List.take_set,List.length_set,htake]
   have hks:p.1.kids.length+1=(p.1.kids++[x.1]).length:=by simp
   rw[hks,GL σ.ps m p (p.1.kids++[x.1]) (some ⟨g',0,none⟩) cap' hp]
   rfl
 ·intro q hq k hk
  rcases hset q hq with rfl|⟨j,_,hj⟩
  ·have e:=lQ.1 hk
   subst e
   rcases hg with h1|h1
   ·exact h.ak p hpm _ h1
   ·exact⟨fun e=>by have:=(jZ h.own e).2;omega,fun e=>by have:=(hBl _ e).2;omega⟩
  ·exact h.ak q (aN hj) k hk
 ·intro i j a b hi hj hij k hk hq
  by_cases ei:m=i
  ·subst ei
   have hi':(p.1.kid x.1,some ⟨g',0,none⟩,cap')=a:=by
    have:=hi
    simp only[List.getElem?_set_self abx] at this
    exact aY this
   subst hi'
   have hj':σ.ps[j]?=some b:=by have:=hj;simp only[List.getElem?_set_ne hij] at this;exact this
   have e:=lQ.1 hk
   subst e
   rcases hg with h1|h1
   ·exact h.kk m j p b hp hj' hij _ h1 hq
   ·have:=(hkl b (aN hj') _ hq).2;omega
  ·have hi':σ.ps[i]?=some a:=by have:=hi;simp only[List.getElem?_set_ne ei] at this;exact this
   by_cases ej:m=j
   ·subst ej
    have hj':(p.1.kid x.1,some ⟨g',0,none⟩,cap')=b:=by
     have:=hj
     simp only[List.getElem?_set_self abx] at this
     exact aY this
    subst hj'
    have e:=lQ.1 hq
    subst e
    rcases hg with h1|h1
    ·exact h.kk i m a p hi' hp hij _ hk h1
    ·have:=(hkl a (aN hi') _ hk).2;omega
   ·have hj':σ.ps[j]?=some b:=by have:=hj;simp only[List.getElem?_set_ne ej] at this;exact this
    exact h.kk i j a b hi' hj' hij k hk hq
 ·intro q hq
  rcases hset q hq with rfl|⟨j,hjm,hj⟩
  ·refine⟨qs++[x],by rw[List.map_append,hqs];rfl,?_,fun y hy=>?_⟩
   ·show w2.ownsRow _ _ 5 (.slice (some ⟨g',0,none⟩) (p.1.kids++[x.1]).length cap') (p.1.kids++[x.1]).length (ed (qs++[x]))
    rw[aZ]
    exact ho
   ·rcases cu.1 hy with hy|hy
    ·exact⟨(hqk y hy).1,ku (hqk y hy).2 hfree hmono⟩
    ·obtain rfl:y=x:=by simpa using hy
     exact⟨hx.1,ku hx.2 hfree hmono⟩
  ·obtain⟨qs2,e,ho2,hx2⟩:=h.kid q (aN hj)
   exact⟨qs2,e,lS ho2 (fun k hk=>hblk k (hkl q (aN hj) k hk).2 (h.ak q (aN hj) k hk).1 (h.kk j m q p hj hp hjm k hk)),fun y hy=>⟨(hx2 y hy).1,ku (hx2 y hy).2 hfree hmono⟩⟩
 ·intro q hq
  exact⟨(h.YG q hq).1,ku (h.YG q hq).2 hfree hmono⟩
theorem RInv.pop (h:RInv s w σ w1) {m:Nat} {p:TP} (hm:σ.ps.length=m+1)(hp:σ.ps[m]?=some p)(hk6:p.1.kids.length≤9223372036854775807) :
 RInv s w { σ with ps:=σ.ps.take m } (w1.setCell ⟨w.heap.size+1,1,none⟩ (.slice σ.A m σ.c)) ∧
 (p.1.kids.length≤p.2.2∧mQ (w1.setCell ⟨w.heap.size+1,1,none⟩ (.slice σ.A m σ.c)) (({ σ with ps:=σ.ps.take m }:St).free (w.heap.size+2) (w1.setCell ⟨w.heap.size+1,1,none⟩ (.slice σ.A m σ.c))) p.2.1 p.1.kids):=by
 have hz:=h.size
 have hpm:=aN hp
 obtain⟨w2,AQ⟩:∃ w2,w2=w1.setCell ⟨w.heap.size+1,1,none⟩ (.slice σ.A m σ.c):=⟨_,rfl⟩
 have hs:w2.heap.size=w1.heap.size:=by rw[AQ];simp[World.setCell]
 have hblk:∀ k,k≠w.heap.size+1→w2.heap[k]?=w1.heap[k]?:=fun k hk=>by rw[AQ];exact aI w1 ⟨w.heap.size+1,1,none⟩ _ k hk
 have hlow:Below w.heap.size w w2:=by rw[AQ];exact h.low.setCell (p:=⟨w.heap.size+1,1,none⟩) (by simp) _
 have hrd:w2.heap[w.heap.size+1]?=some (.cells #[.string s,.slice σ.A m σ.c,.slice σ.B σ.dn.length σ.cB] 102 (0,0)):=by rw[AQ];exact JI.FY h.rd _ _
 rw[←AQ]
 clear AQ
 have htk:(σ.ps.take m).length=m:=by rw[List.length_take];omega
 have hmem:∀ q,q∈σ.ps.take m→∃ j,j≠m∧σ.ps[j]?=some q:=fun q hq=>by
  obtain⟨j,hj⟩:=List.mem_iff_getElem?.1 hq
  have hjm:j<m:=by
   rcases Nat.lt_or_ge j m with h'|h'
   ·exact h'
   ·rw[List.getElem?_take_eq_none h'] at hj;cases hj
  rw[List.getElem?_take_of_lt hjm] at hj
  exact⟨j,by omega,hj⟩
 have hkl:∀ p∈σ.ps,∀ k,bk p.2.1 k→w.heap.size+2≤k∧k<w1.heap.size:=fun p hp k hk=>by
  obtain⟨qs,_,ho,_⟩:=h.kid p hp
  exact jZ ho hk
 have hfree:∀ k,σ.free (w.heap.size+2) w1 k→w2.heap[k]?=w1.heap[k]?:=fun k hk=>hblk k (by have:=hk.1;omega)
 have hmono:∀ k,σ.free (w.heap.size+2) w1 k→({ σ with ps:=σ.ps.take m }:St).free (w.heap.size+2) w2 k:=fun k hk=>⟨hk.1,by rw[hs];exact hk.2.1,fun hl=>by
  rcases hl with h1|h1|⟨q,hq,h1⟩
  ·exact hk.2.2 (.inl h1)
  ·exact hk.2.2 (.inr (.inl h1))
  ·obtain⟨j,_,hj⟩:=hmem q hq
   exact hk.2.2 (.inr (.inr ⟨q,aN hj,h1⟩))⟩
 have hdn:σ.dn=[]:=by
  rcases h.od with h1|h1
  ·rw[h1] at hm;cases hm
  ·exact h1
 constructor
 ·refine⟨hlow,by omega,(hblk _ (by omega)).trans h.res,?_,?_,lS h.ZX (fun k hk=>hblk k (by have:=(jZ h.ZX hk).1;omega)),h.ab,fun q hq k hk=>?_,fun i j a b hi hj hij k hk hq=>?_,fun q hq=>?_,fun q hq=>?_,.inr hdn,h.bn⟩
  ·rw[hrd];simp only[htk]
  ·have ho:w2.ownsRow (w.heap.size+2) 71 5 (.slice σ.A σ.ps.length σ.c) σ.ps.length (ed σ.ps):=lS h.own (fun k hk=>hblk k (by have:=(jZ h.own hk).1;omega))
   obtain⟨g,cap,e,_⟩:=ho.form (by omega)
   injection e with e1 _ e3
   rw[e1] at ho
   have:=J5 ho rfl (k:=m) (by omega)
   simp only[htk]
   rw[e1]
   exact this
  ·obtain⟨j,_,hj⟩:=hmem q hq
   exact h.ak q (aN hj) k hk
  ·have get:∀ {i:Nat} {a:TP},(σ.ps.take m)[i]?=some a→σ.ps[i]?=some a:=fun {i a} hi=>by
    rcases Nat.lt_or_ge i m with h'|h'
    ·rw[List.getElem?_take_of_lt h'] at hi;exact hi
    ·rw[List.getElem?_take_eq_none h'] at hi;cases hi
   exact h.kk i j a b (get hi) (get hj) hij k hk hq
  ·obtain⟨j,_,hj⟩:=hmem q hq
   obtain⟨qs,e,ho,hx⟩:=h.kid q (aN hj)
   exact⟨qs,e,lS ho (fun k hk=>hblk k (by have:=(jZ ho hk).1;omega)),fun y hy=>⟨(hx y hy).1,ku (hx y hy).2 hfree hmono⟩⟩
  ·exact⟨(h.YG q hq).1,ku (h.YG q hq).2 hfree hmono⟩
 ·obtain⟨qs,e,ho,hx⟩:=h.kid p hpm
  have hl:p.1.kids.length=qs.length:=by rw[←e,bM]
  have ho2:w2.ownsRow (w.heap.size+2) 71 5 (.slice p.2.1 qs.length p.2.2) qs.length (ed qs):=by
   rw[←hl]
   exact lS ho (fun k hk=>hblk k (by have:=(jZ ho hk).1;omega))
  have:=O9 ho2 (by omega) (S:=({ σ with ps:=σ.ps.take m }:St).free (w.heap.size+2) w2) (fun k hk=>⟨(hkl p hpm k hk).1,by rw[hs];exact (hkl p hpm k hk).2,fun hlv=>by
   rcases hlv with h1|h1|⟨q,hq,h1⟩
   ·exact (h.ak p hpm k hk).1 h1
   ·exact (h.ak p hpm k hk).2 h1
   ·obtain⟨j,hjm,hj⟩:=hmem q hq
    exact h.kk m j p q hp hj (Ne.symm hjm) k hk h1⟩) (fun q hq=>⟨(hx q hq).1,ku (hx q hq).2 hfree hmono⟩)
  rw[e] at this
  exact this
end
theorem oK (t:T)(hs:t.s.size≤9223372036854775807)(A:Option Addr)(c:Nat)(w:World) :
 Calls Tryz.prog 83 #[t.val A c] w fun e w'=>e=.returned (.tuple #[.string (bif nameB t.s then t.s else ⟨#[]⟩),.int .i64 (bif nameB t.s then 0 else 20),.int .i64 (bif nameB t.s then 0 else t.at_)])∧Below w.heap.size w w':=by
 obtain⟨k,s,n,l,a⟩:=t
 simp only[T.val,T.k,T.s,T.n,T.kids,T.at_] at hs ⊢
 have hb0:=dV w #[.int .i64 k,.string s,.int .i64 n,.slice A l.length c,.int .i64 a] 86
 have hnm:=ae (vF s hs (w.alloc (.cells #[.int .i64 k,.string s,.int .i64 n,.slice A l.length c,.int .i64 a] 86)))
 have HB0:=ae hb0
 have hx0:=ae (sF w k s n A l.length c a)
 clear hb0 hs
 generalize l.length=m at *
 generalize nameB s=q at *
 cases q
 ·simp only[cond_false]
  go_enter Tryz.func83,Tryz.ntmps83
  go_wp2_with fail
  refine (hnm.o).mono ?_
  rintro e w' ⟨rfl,hb⟩
  have iI:=ae ((hb.block w.heap.size (by simp)).trans hx0.o)
  have HB2:=ae (HB0.o.trans (hb.mono HB0.o.size))
  clear hb
  obtain⟨⟨k0,k1,k2,k3,k4⟩,_,_,_,_,_⟩:=dN iI.o
  go_wp2_with fail
  go_quiet (fail)
  go_wp2_with fail
  go_ret3
  exact⟨rfl,below_drewN HB2.o _⟩
 ·simp only[cond_true]
  go_enter Tryz.func83,Tryz.ntmps83
  go_wp2_with fail
  refine (hnm.o).mono ?_
  rintro e w' ⟨rfl,hb⟩
  have iI:=ae ((hb.block w.heap.size (by simp)).trans hx0.o)
  have HB2:=ae (HB0.o.trans (hb.mono HB0.o.size))
  clear hb
  obtain⟨⟨k0,k1,k2,k3,k4⟩,_,_,_,_,_⟩:=dN iI.o
  go_wp2_with fail
  go_ret3
  exact⟨rfl,HB2.o⟩
theorem vP (q:Bool)(s:ByteArray)(a:Int):(q=true∧(bif q then s else ⟨#[]⟩)=s∧(bif q then (0:Int) else 20)=0∧(bif q then (0:Int) else a)=0)∨(q=false∧(bif q then (0:Int) else 20)=20):=by
 cases q
 ·exact .inr ⟨rfl,rfl⟩
 ·exact .inl ⟨rfl,rfl,rfl,rfl⟩
def Vq (w w':World)(l:List T)(e:Ending):Prop :=
 (∃ A' c',e=.returned (.tuple #[.slice A' l.length c',.int .i64 0,.int .i64 0])∧l.length≤c'∧Lies w' (fun k=>w.heap.size≤k∧k<w'.heap.size) A' (strs (l.map T.s))∧∀ x∈l,nameB x.s=true) ∨
 (∃ a,e=.returned (.tuple #[.slice none 0 0,.int .i64 20,.int .i64 a])∧∃ x∈l,nameB x.s=false)
theorem tZ (l:List T)(hl:l.length≤600)(hs:∀ x∈l,x.s.size≤600)(A:Option Addr)(c:Nat)(w:World)(hA:fA w w.heap.size A l) :
 Calls Tryz.prog 85 #[.slice A l.length c] w fun r w'=>Vq w w' l r∧Below w.heap.size w w':=by
 obtain⟨ln,rH⟩:∃ ln,ln=l.length:=⟨_,rfl⟩
 have HK:=ae hA
 have kC:=ae rH
 have HS:=ae hs
 obtain⟨i0,hi,hz0,hz1,hz2⟩:=info_parts rW
 rw[←rH] at hl ⊢
 clear hA rH hs
 go_enter Tryz.func85,Tryz.ntmps85
 go_wp2_with fail
 go_loopw [5,6] (fun v i wr=>∃ (j:Nat)(A':Option Addr)(c':Nat),j≤ln∧i=.int .i64 j∧v=.slice A' j c'∧wr.ownsRow w.heap.size 9 1 (.slice A' j c') j (strs ((l.map T.s).take j))∧Below w.heap.size w wr∧Hid (∀ x∈l.take j,nameB x.s=true)) (fun _ i _=>ln-(intOf i).toNat)
 case atStart=>exact⟨0,none,0,aX _,rfl,rfl,⟨rfl,.inl ⟨rfl,rfl⟩⟩,aG _ _,ae (fun x hx=>by simp at hx)⟩
 case round =>
  obtain⟨j,A',c',hj,rfl,rfl,hown,ho,hra⟩:=hrel
  have HO:=ae hown
  have HB:=ae ho
  have hsz:=ho.size
  clear hown ho
  by_cases hlt2:j<ln
  ·obtain⟨x,hx⟩:∃ x,l[j]?=some x:=⟨_,aO (by rw[←kC.o];exact hlt2)⟩
   have htk:=ae (GR (l:=l.map T.s) (j:=j) (x:=x.s) (by rw[bP,hx];rfl))
   have hnx:nameB x.s=true→Hid (∀ y∈l.take (j+1),nameB y.s=true):=fun hq=>ae (fun y hy=>by
    rw[List.take_add_one,hx] at hy
    rcases cu.1 hy with hy|hy
    ·exact hra.o y hy
    ·obtain rfl:y=x:=by simpa using hy
     exact hq)
   obtain⟨b,o,A2,c2,rfl,hbl,m1,m2,m3,m4,m5,hcx,hKx⟩:=HK.o.gy wr HB.o j x hx
   have hcl:=ae (oK x (by have:=HS.o x (aN hx);omega) A2 c2 wr)
   have BH:=ae hnx
   have HMX:Hid (nameB x.s=false→∃ y∈l,nameB y.s=false):=ae (fun h=>⟨x,aN hx,h⟩)
   clear hx hKx hcx hnx hra
   have hcs:=vP (nameB x.s) x.s x.at_
   generalize (bif nameB x.s then x.s else ⟨#[]⟩)=r1 at *
   generalize (bif nameB x.s then (0:Int) else 20)=r2 at *
   generalize (bif nameB x.s then (0:Int) else x.at_)=r3 at *
   generalize nameB x.s=q at *
   obtain⟨xk,xs,xn,xl,xa⟩:=x
   simp only[T.val,T.k,T.s,T.n,T.kids,T.at_] at m1 m2 m3 m4 m5 hcl htk hcs
   generalize xl.length=xm at *
   rcases hcs with⟨rfl,rfl,rfl,rfl⟩|⟨rfl,rfl⟩
   ·have hq2:=BH.o rfl
    go_wp2_with fail
    refine (hcl.o).mono ?_
    rintro e w2 ⟨rfl,hb2⟩
    have QZ:=ae (own_below HO.o hb2)
    have HB2:=ae (HB.o.trans (hb2.mono hsz))
    have hs2:=HB2.o.size
    clear hb2
    go_wp2_with (at_builtin;refine wpList_append_own _ rfl _ _ 23 rfl w.heap.size 9 i0 _ 1 16 Tryz.underlying23 hi hz0 hz1 hz2 rfl (by decide) (.slice A' j c') j (strs ((l.map T.s).take j)) rfl (own_below QZ.o ((aG w2.heap.size w2).alloc (aF _) _)) ⟨w2.heap.size,0,none⟩ 1 1 [.string r1] rfl rfl ?c1 ?c2 ?c3 ?c4 ?c5 ?_)
    case c1=>exact bz (aH w2 _)
    case c2=>first|rfl|(intro u hu;simp at hu;subst hu;rfl)
    case c3=>unfold maxLen;omega
    case c4=>omega
    case c5=>first|omega|(simp;omega)
    intro v' w5 hown5 hgrow _
    have JJ:=(HB2.o.alloc hs2 (.cells #[.string r1] 9)).grown hgrow (by simp;omega) (fun k e=>(QZ.o.lt k e).1)
    obtain⟨g5,cap5,XA,_⟩:=hown5.form (by omega)
    subst XA
    have jq:Hid (w5.ownsRow w.heap.size 9 1 (.slice (some ⟨g5,0,none⟩) (j+1) cap5) (j+1) (strs ((l.map T.s).take (j+1)))):=ae (by
     rw[htk.o]
     exact hown5)
    have jA:=ae JJ
    clear hown5 hgrow JJ
    go_wp2_with fail
    go_roundw
    case rel=>exact⟨j+1,_,cap5,by omega,by go_num,rfl,jq.o,jA.o,hq2⟩
    case measure=>simp[intOf];omega
   ·go_wp2_with fail
    refine (hcl.o).mono ?_
    rintro e w2 ⟨rfl,hb2⟩
    have HB2:=ae (HB.o.trans (hb2.mono hsz))
    clear hb2
    go_wp2_with fail
    go_ret3
    exact⟨.inr ⟨_,rfl,HMX.o (by first|rfl|trivial)⟩,HB2.o⟩
  ·obtain rfl:j=ln:=by omega
   obtain⟨A3,c3,e3,hc3,hL⟩:=oH HO.o (S:=fun k=>w.heap.size≤k∧k<wr.heap.size) (fun k h1 h2=>⟨h1,h2⟩)
   obtain⟨rfl,rfl⟩:A'=A3∧c'=c3:=by injection e3 with e4 _ e5;exact⟨e4,e5⟩
   have hml:(l.map T.s).take j=l.map T.s:=bJ (by rw[bM];exact Nat.le_of_eq kC.o.symm)
   have aam:l.take j=l:=bJ (Nat.le_of_eq kC.o.symm)
   rw[hml] at hL
   have HL:=ae hL
   have HN9:Hid (∀ x∈l,nameB x.s=true):=by rw[aam] at hra;exact hra
   clear hL hra e3
   go_wp2_with fail
   go_ret3
   refine⟨.inl ⟨A',c',?_,by rw[←kC.o];exact hc3,HL.o,HN9.o⟩,HB.o⟩
   rw[←kC.o]
   rfl
theorem Tm:wR:=fun x w hx hE=>by
 obtain⟨⟨_,e1,c1,d1⟩,⟨_,e2,c2,d2⟩⟩:=hE
 cases h:Lib.parseIntB 64 x.data.toList with
 | ok v =>
   refine (Tryz.strconv_ParseInt_10_at64_ok x (by omega) v h w).mono ?_
   rintro e w' ⟨rfl,hw⟩
   refine⟨.inl ⟨v,rfl,rfl⟩,?_⟩
   rcases hw with rfl|⟨t,rfl⟩
   ·exact aG _ _
   ·exact Lib.bytesWorld_below _ _ _
 | «syntax» =>
   refine (Tryz.strconv_ParseInt_10_at64_syntax x (by omega) h e1 w c1 d1).mono ?_
   rintro e w' ⟨N,rfl,_,_,hb⟩
   exact⟨.inr ⟨(fun v h=>by cases h),_,_,_,rfl⟩,hb⟩
 | range =>
   refine (Tryz.strconv_ParseInt_10_at64_range x (by omega) h e2 w c2 d2).mono ?_
   rintro e w' ⟨N,rfl,_,_,hb⟩
   exact⟨.inr ⟨(fun v h=>by cases h),_,_,_,rfl⟩,hb⟩
theorem YI:zI:=fun c w=>Tryz.strings_IndexByte hexDigits c w
end Go.Proofs.YtjhkihkiebnpaaaGreatDoor
