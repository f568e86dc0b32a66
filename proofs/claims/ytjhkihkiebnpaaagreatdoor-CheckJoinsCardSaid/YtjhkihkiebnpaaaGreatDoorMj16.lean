/-
  The reference's plans: From: a tree as a plan. (Printed by gen_rkm.py.)
-/
import Derived.Test.YtjhkihkiebnpaaaGreatDoorMj0
import Derived.Test.YtjhkihkiebnpaaaGreatDoorMj15
import Derived.RegionTactic
import Derived.Deep.CutBlock
import Derived.Deep.DeepCutAuto
import Derived.Deep.AppendLies
set_option linter.unusedVariables false
set_option linter.unusedSimpArgs false
set_option maxRecDepth 100000
set_option maxHeartbeats 40000000
namespace Go.Proofs.YtjhkihkiebnpaaaGreatDoor
open Go.RowKit
theorem yh {t:T} (h:t.Good):t.s.size≤600:=by
 obtain⟨k,s,n,l,a⟩:=t
 obtain⟨_,_,_,_,_,_,_,hs,_,_,_⟩:=h
 exact hs
theorem jO {t:T} (h:t.Good):t.kids.length≤600∧∀ e∈t.kids,T.Good e:=by
 obtain⟨k,s,n,l,a⟩:=t
 obtain⟨_,_,_,_,_,_,_,_,_,hl,hk⟩:=h
 exact⟨hl,hk⟩
theorem Pn {w w2 wc wr:World} {p0:P} {a0:PA} {ks:List P} {A9:Option Addr} {c9:Nat} {x0 x1 x2 x3 x4 x5 x6 x7:Value} (hp:nU wr (fun k=>w2.heap.size<k∧k<wc.heap.size) p0 a0)(hX:CE wr (fun k=>wc.heap.size≤k∧k<wr.heap.size) A9 ks)
 (h1:w.heap.size+1<w2.heap.size)(h2:w2.heap.size≤wr.heap.size)(h3:wc.heap.size≤wr.heap.size)(h4:w2.heap.size<wc.heap.size) :
 kY (uY wr (w.heap.size+1) x0 x1 x2 x3 x4 x5 x6 x7) (fun k=>w.heap.size≤k∧k<(uY wr (w.heap.size+1) x0 x1 x2 x3 x4 x5 x6 x7).heap.size) (p0.put ks) { a0 with ka:=A9,kc:=c9 }:=by
 have h:=(hp.kept fun k hk=>(jH (w:=wr) (p:=w.heap.size+1) (x0:=x0) (x1:=x1) (x2:=x2) (x3:=x3) (x4:=x4) (x5:=x5) (x6:=x6) (x7:=x7) (by have:=hk.1;omega))).mono (S':=fun k=>w.heap.size≤k∧k<(uY wr (w.heap.size+1) x0 x1 x2 x3 x4 x5 x6 x7).heap.size) (fun k hk=>⟨by have:=hk.1;omega,by rw[mV];have:=hk.2;omega⟩)
 exact⟨⟨h.ex,h.cols,h.left,h.right,h.ag,h.l1,h.l2,h.l3,h.l4,h.l5⟩,(hX.kept fun k hk=>jH (by have:=hk.1;omega)).mono fun k hk=>⟨by have:=hk.1;omega,by rw[mV];exact hk.2⟩⟩
theorem vY {l:List T} (h:∀ e∈l,nameB e.s=true):∀ s:jL,jc l s=s:=by
 induction l with
 | nil=>intro s;rfl
 | cons x l ih =>
   intro s
   show l.foldl (fun s t=>jl t s) (jl x s)=s
   have e:jl x s=s:=by unfold jl;rw[if_pos (h x bH)]
   rw[e]
   exact ih (fun e he=>h e (bG _ he)) s
theorem V6 {w:World} {n:Nat} {p:Addr} {u:Value} (h:n<w.heap.size):n<(w.setCell p u).heap.size:=by simp[World.setCell];exact h
theorem MB {l:List T} {ln c i:Nat} (hi:i≤2)(hl:ln=l.length)(h3:3≤l.length)(hc:l.length≤c)(h6:l.length≤600):∃ m en,l.length=m+i+1∧en=m+i∧m≤600∧1<ln∧(1:Int)<(ln:Int)∧(ln:Int)-1=(en:Int)∧wrap64 (en:Int)=(en:Int)∧en≤ln∧(en:Int)≤(ln:Int)∧(0:Int)≤(en:Int)∧¬c=en∧ln≤c∧ln-en=1 :=
 ⟨l.length-i-1,l.length-1,by omega,by omega,by omega,by omega,by omega,by omega,IntWalk.wrap64_in _ (by omega),by omega,by omega,by omega,by omega,by omega,by omega⟩
theorem V7 {j m en:Nat} (h:en=m+1)(hj:j<m):j+1<en∧(j:Int)+1<(en:Int):=by omega
theorem QE {j m en:Nat} (h:en=m+1)(hj:¬j<m):¬(j+1<en)∧¬((j:Int)+1<(en:Int)):=by omega
theorem V8 {j m en:Nat} (h:en=m+2)(hj:j<m):j+2<en∧(j:Int)+2<(en:Int):=by omega
theorem QF {j m en:Nat} (h:en=m+2)(hj:¬j<m):¬(j+2<en)∧¬((j:Int)+2<(en:Int)):=by omega
theorem YL {m en:Nat} (h:en=m+2)(hj:0<m):2<en∧(2:Int)<(en:Int):=by omega
theorem YM {j m en ln:Nat} (h:en=m+1)(hj:j<m)(hl:en≤ln):j+1<ln∧(j:Int)+1<(ln:Int)∧(0:Int)≤(j:Int)+1:=by omega
theorem YN {j m en ln:Nat} (h:en=m+2)(hj:j<m)(hl:en≤ln):j+2<ln∧(j:Int)+2<(ln:Int)∧(0:Int)≤(j:Int)+2:=by omega
theorem abM {m en:Nat} (h:en=m+2)(hj:¬0<m):en=2:=by omega
theorem Po {l:List T} (h:∀ e∈l,CO e.kids):∀ s:jL,oW l s=s:=by
 induction l with
 | nil=>intro s;rfl
 | cons x l ih =>
   intro s
   show l.foldl (fun s t=>rV t.kids s) (rV x.kids s)=s
   rw[OD (h x bH)]
   exact ih (fun e he=>h e (bG _ he)) s
def ZZ (pb:Nat)(w2 w7:World)(lv:Value)(mid:List T)(s7 s8 i:Value)(wr:World):Prop :=
 ∃ (j:Nat)(v:Value)(gs:List Ag)(y z:Int),j≤mid.length∧i=.int .i64 ((j+2:Nat):Int)∧s7=.int .i64 y∧s8=.int .i64 z∧gs.length=j∧RG pb w2 w7.heap.size lv v gs wr∧(∀ k,pb<k→k<w7.heap.size→wr.heap[k]?=w7.heap[k]?) ∧
   (y=0→gs=(mid.take j).map qE∧∀ c∈mid.take j,CO c.kids)∧(y≠0→∃ c∈mid,¬Jg c.kids)
theorem Pq {pb:Nat} {w2 w7 wr:World} {lv v:Value} {mid:List T} {j:Nat} {x:T} {gs:List Ag} {g:Ag} {y z:Int} (hx:mid[j]?=some x)(hgl:gs.length=j)(h:RG pb w2 w7.heap.size lv v (gs++[g]) wr)(hold:∀ k,pb<k→k<w7.heap.size→wr.heap[k]?=w7.heap[k]?)
 (hz:gs=(mid.take j).map qE∧∀ c∈mid.take j,CO c.kids)(hg:y=0→CO x.kids∧qE x=g)(hgn:y≠0→¬Jg x.kids):ZZ pb w2 w7 lv mid (.int .i64 y) (.int .i64 z) (.int .i64 ((j:Int)+2+1)) wr:=by
 have hj:j<mid.length:=(aV.1 hx).1
 refine⟨j+1,v,gs++[g],y,z,hj,by simp;omega,rfl,rfl,by simp[hgl],h,hold,fun h0=>?_,fun h=>⟨x,aN hx,hgn h⟩⟩
 obtain⟨h1,h2⟩:=hg h0
 refine⟨by rw[jU qE hx,hz.1,h2],fun c hc=>?_⟩
 rw[List.take_add_one,hx] at hc
 rcases cu.1 hc with hc|hc
 ·exact hz.2 c hc
 ·obtain rfl:c=x:=by simpa using hc
  exact h1
theorem abN {j m:Nat} (h:j<m):m+2-(intOf (Value.int .i64 ((j:Int)+2+1))).toNat<m+2-(intOf (Value.int .i64 ((j+2:Nat):Int))).toNat:=by
 simp[intOf];omega
theorem Pv {l:List T} (h:∀ e∈l,nameB (oP e)=true∧(dX (e.kids.getD 1 dW)).2.1=0):∀ s:jL,qQ l s=s:=by
 induction l with
 | nil=>intro s;rfl
 | cons x l ih =>
   intro s
   show l.foldl (fun s t=>Ak t s) (Ak x s)=s
   obtain⟨h1,h2⟩:=h x bH
   have e:Ak x s=s:=by
    unfold Ak qo jl
    unfold oP at h1
    rw[if_pos h2,if_pos h1]
   rw[e]
   exact ih (fun e he=>h e (bG _ he)) s
def Z4 (pb:Nat)(w2 wk:World)(mid:List T)(s7 s8 i:Value)(wr:World):Prop :=
 ∃ (j:Nat)(v2 v3:Value)(ps:List EP)(cs:List ByteArray)(y z:Int),j≤mid.length∧i=.int .i64 ((j+1:Nat):Int)∧s7=.int .i64 y∧s8=.int .i64 z∧ps.length=j∧cs.length=j∧RC pb w2 wk.heap.size v2 v3 ps cs wr ∧
   (y=0→ps.map Prod.fst=(mid.take j).map wW∧cs=(mid.take j).map oP∧∀ c∈mid.take j,nameB (oP c)=true∧(dX (c.kids.getD 1 dW)).2.1=0)
theorem Px {pb:Nat} {w2 wk wr:World} {v2 v3:Value} {mid:List T} {j:Nat} {x:T} {ps:List EP} {p:EP} {cs:List ByteArray} {s:ByteArray} {y z:Int} (hx:mid[j]?=some x)(hpl:ps.length=j)(hcl:cs.length=j)(h:RC pb w2 wk.heap.size v2 v3 (ps++[p]) (cs++[s]) wr)
 (hz:ps.map Prod.fst=(mid.take j).map wW∧cs=(mid.take j).map oP∧∀ c∈mid.take j,nameB (oP c)=true∧(dX (c.kids.getD 1 dW)).2.1=0)(hn:oP x=s)(hb:nameB s=true)(he:wW x=p.1∧(dX (x.kids.getD 1 dW)).2.1=y):Z4 pb w2 wk mid (.int .i64 y) (.int .i64 z) (.int .i64 ((j:Int)+1+1)) wr:=by
 have hj:j<mid.length:=(aV.1 hx).1
 refine⟨j+1,v2,v3,ps++[p],cs++[s],y,z,hj,by simp,rfl,rfl,by simp[hpl],by simp[hcl],h,fun h0=>?_⟩
 refine⟨by rw[jU wW hx,List.map_append,hz.1,he.1];rfl,by rw[jU oP hx,hz.2.1,hn],fun c hc=>?_⟩
 rw[List.take_add_one,hx] at hc
 rcases cu.1 hc with hc|hc
 ·exact hz.2.2 c hc
 ·obtain rfl:c=x:=by simpa using hc
  exact⟨by rw[hn];exact hb,by rw[he.2];exact h0⟩
theorem abO {j m:Nat} (h:j<m):m+1-(intOf (Value.int .i64 ((j:Int)+1+1))).toNat<m+1-(intOf (Value.int .i64 ((j+1:Nat):Int))).toNat:=by
 simp[intOf];omega
theorem V9 {w10 QG w12:World} {g pb k:Nat} {v u:Value} {o:Obj} (hg:w10.grownBy QG v.ownBlock)(h:w10.heap[g]?=some o)(hv:v.ownBlock≠some g)(hne:g≠pb)(e:w12=QG.setCell ⟨pb,k,none⟩ u):w12.heap[g]?=some o:=by
 rw[e]
 exact (aI QG ⟨pb,k,none⟩ _ g hne).trans ((hg.block g (aU.1 h).1 (fun e=>hv e.symm)).trans h)
theorem Tu {w9 w10 QG w12:World} {lo hi b pb k n:Nat} {v u:Value} {A:Option Addr} {l:List E} (h:jG w9 (fun k=>lo≤k∧k<hi) A l)(hhi:hi=w9.heap.size)(ho:∀ k,k≠b→w10.heap[k]?=w9.heap[k]?)(hs:w10.heap.size=w9.heap.size)(hg:w10.grownBy QG v.ownBlock)
 (hv:∀ k,v.ownBlock=some k→k<n)(hn:n≤lo)(hb:b<lo)(hp:pb<lo)(e:w12=QG.setCell ⟨pb,k,none⟩ u):jG w12 (fun k=>lo≤k∧k<hi) A l:=by
 subst hhi
 refine h.kept fun k hk=>?_
 obtain⟨h1,h2⟩:=hk
 rw[e]
 exact (aI QG _ _ k (by show k≠pb;omega)).trans ((hg.block k (by omega) (fun e=>by have:=hv k e.symm;omega)).trans (ho k (by omega)))
theorem abP {v u:Value} {w10:World} {lo hi:Nat} (h:u.ownBlock=v.ownBlock∨∃ n,u.ownBlock=some n∧w10.heap.size≤n)(hv:∀ k,v.ownBlock=some k→k<lo)(hs:hi≤w10.heap.size):∀ k,u.ownBlock=some k→k<lo∨hi≤k:=by
 intro k e
 rcases h with h|⟨n,h,hn⟩
 ·exact .inl (hv k (by rw[←h];exact e))
 ·rw[h] at e
  have:=aY e
  exact .inr (by omega)
theorem Tv (k:Int)(s:ByteArray)(n:Int)(l:List T)(a:Int)(hM:∀ e∈l,Pm e):Pm (.mk k s n l a):=by
 intro hg A c w hc hA
 obtain⟨_,_,_,_,_,hn1,hn2,hs6,hs4,Aw,hgk⟩:=hg
 have hform:=fun w' hA'=>V4 (.mk k s n l a) A c w' hc hA'
 have hhead:=fun w' hA'=>Lj (.mk k s n l a) A c w' hA'
 have hall:=zt (lh (.mk k s n l a)).toList l
 have Nu:Hid (∀ kd,kd=jK (.mk k s n l a)→jK (.mk k s n l a)=kd):=ae fun kd h=>h.symm
 obtain⟨kd,hkd⟩:∃ kd,kd=jK (.mk k s n l a):=⟨_,rfl⟩
 rw[show gJ (lh (.mk k s n l a)).toList l=jK (.mk k s n l a) from rfl,←hkd] at hall
 rw[←hkd] at hform
 generalize lh (.mk k s n l a)=wd at *
 have HKT:=ae (Nu.o kd hkd)
 clear Nu hkd
 simp only[T.val,T.k,T.s,T.n,T.kids,T.at_] at hc hA hform hhead ⊢
 obtain⟨ln,rH⟩:∃ ln,ln=l.length:=⟨_,rfl⟩
 obtain⟨wa,qx⟩:∃ wa,wa=w.alloc (.cells #[.int .i64 k,.string s,.int .i64 n,.slice A ln c,.int .i64 a] 86):=⟨_,rfl⟩
 have hba:Below w.heap.size w wa:=by rw[qx];exact (aG _ _).alloc (aF _) _
 have hsa:wa.heap.size=w.heap.size+1:=by rw[qx];simp
 have hxa:wa.heap[w.heap.size]?=some (.cells #[.int .i64 k,.string s,.int .i64 n,.slice A ln c,.int .i64 a] 86 (0,0)):=by rw[qx];exact aH w _
 obtain⟨w1,dZ⟩:∃ w1,w1=wa.alloc (.cells #[.int .i64 0,.string ⟨#[]⟩,.slice none 0 0,.slice none 0 0,.slice none 0 0,.slice none 0 0,.slice none 0 0,.slice none 0 0] 27):=⟨_,rfl⟩
 have hb1:Below wa.heap.size wa w1:=by rw[dZ];exact (aG _ _).alloc (aF _) _
 have hs1:w.heap.size+1<w1.heap.size:=by rw[dZ];simp;omega
 have hr1:w1.heap[w.heap.size+1]?=some (.cells #[.int .i64 0,.string ⟨#[]⟩,.slice none 0 0,.slice none 0 0,.slice none 0 0,.slice none 0 0,.slice none 0 0,.slice none 0 0] 27 (0,0)):=by rw[dZ,←hsa];exact aH wa _
 have hx1:w1.heap[w.heap.size]?=some (.cells #[.int .i64 k,.string s,.int .i64 n,.slice A ln c,.int .i64 a] 86 (0,0)):=(hb1.block _ (by omega)).trans hxa
 have hbw:Below w.heap.size w w1:=hba.trans (hb1.mono (by omega))
 have HFM:=ae (hform w1 ((hA.low hbw).more (by omega)))
 have Nq:=ae (fun w' (hb:Below w.heap.size w w')=>hhead w' ((hA.low hb).more hb.size))
 rw[←rH] at HFM Nq
 have HW1:=ae (show w1=(w.alloc (.cells #[.int .i64 k,.string s,.int .i64 n,.slice A ln c,.int .i64 a] 86)).alloc (.cells #[.int .i64 0,.string ⟨#[]⟩,.slice none 0 0,.slice none 0 0,.slice none 0 0,.slice none 0 0,.slice none 0 0,.slice none 0 0] 27) by rw[dZ,qx])
 have Nk:=ae hA
 have jJ:=ae hx1
 have HT1:=ae hr1
 have HB1:=ae hbw
 have kC:=ae rH
 have HM:=ae hM
 have Z5:=ae hgk
 obtain⟨⟨k0,k1,k2,k3,k4⟩,_,_,_,_,_⟩:=dN hx1
 rw[←rH]
 clear qx hba hsa hxa dZ hb1 hr1 hx1 hbw hA hform hhead hM hgk rH wa
 go_enter Tryz.func40,Tryz.ntmps40
 go_upto_region 1 with (fail)
 rw[←HW1.o]
 by_cases hk0:kd=0
 ·subst hk0
  go_wp2_with fail
  refine (HFM.o).mono ?_
  rintro e w2 ⟨rfl,hb2⟩
  have HB2:=ae (HB1.o.trans (hb2.mono HB1.o.size))
  have iI:=ae ((hb2.block w.heap.size (by omega)).trans jJ.o)
  have HT2:=ae ((hb2.block (w.heap.size+1) (by omega)).trans HT1.o)
  clear hb2 k0 k1 k2 k3 k4 hall HFM Nq
  obtain⟨⟨k0,k1,k2,k3,k4⟩,_,_,_,_,_⟩:=dN iI.o
  obtain⟨t0,t1,t2,t3,t4,t5,t6,t7,g0,g1,g2,g3,g4,g5,g6,g7⟩:=dO HT2.o
  go_upto_region 2 with (fail)
  go_region
  all_goals
   go_wp2_with fail
   refine aJ (jb rfl rfl rfl rfl (Be HT2.o)) rfl ?_
   exact sJ (fun ha=>ha.kind HKT.o) (by decide) rfl ((iq HB2.o (aW _)).drew)
 have hkb:((kd:Int) != 0)=true:=by simpa using hk0
 rw[hkb] at HFM
 go_wp2_with fail
 refine (HFM.o).mono ?_
 rintro e w2 ⟨rfl,hb2⟩
 have HB2:=ae hb2
 have hs2:=hb2.size
 have iI:=ae ((hb2.block w.heap.size (by omega)).trans jJ.o)
 have HT2:=ae ((hb2.block (w.heap.size+1) (by omega)).trans HT1.o)
 have JB:=ae (HB1.o.trans (hb2.mono HB1.o.size))
 have xQ:=ae ((Nk.o.low JB.o).more JB.o.size)
 clear hb2 k0 k1 k2 k3 k4 hkb HFM
 obtain⟨w3,ny⟩:∃ w3,w3=w2.alloc (.cells #[.int .i64 0,.string ⟨#[]⟩,.slice none 0 0,.slice none 0 0,.slice none 0 0,.slice none 0 0,.slice none 0 0,.slice none 0 0] 27):=⟨_,rfl⟩
 have hb3:Below w2.heap.size w2 w3:=by rw[ny];exact (aG _ _).alloc (aF _) _
 have hs3:w2.heap.size<w3.heap.size:=by rw[ny];simp
 have nO:=ae ((hb3.block w.heap.size (by omega)).trans iI.o)
 have Gj:Hid (w3.heap[w2.heap.size]?=some (.cells #[.int .i64 0,.string ⟨#[]⟩,.slice none 0 0,.slice none 0 0,.slice none 0 0,.slice none 0 0,.slice none 0 0,.slice none 0 0] 27 (0,0))):=ae (by rw[ny];exact aH w2 _)
 have HW3:=ae ny
 have X3:=ae hb3
 have HCH:=ae (Nq.o w3 (JB.o.trans (hb3.mono JB.o.size)))
 clear ny hb3 jJ HT1 Nq
 go_upto_region 4 with (fail)
 rw[←HW3.o]
 obtain⟨⟨k0,k1,k2,k3,k4⟩,_,_,_,_,_⟩:=dN nO.o
 go_wp2_with fail
 refine (HCH.o).mono ?_
 rintro e w4 ⟨rfl,hb4⟩
 have zX:=ae ((hb4.block w2.heap.size hs3).trans Gj.o)
 have CS:=ae (X3.o.trans (hb4.mono (bV hs3)))
 have We:w2.heap.size<w4.heap.size:=aK hs3 hb4.size
 have uz:=ae ((hb4.block w.heap.size (by omega)).trans nO.o)
 clear hb4 k0 k1 k2 k3 k4 HCH Gj nO
 go_upto_block 0 with (fail)
 go_cut [7,8,9] (fun s7 s8 s9 wx=>ais w2.heap.size w2 kd l a s7 s8 s9 wx)
 case first =>
  rcases hall with rfl|⟨rfl,hw,hl,ha⟩|⟨rfl,hw,hl⟩|⟨rfl,hw,hl,ha⟩|⟨rfl,hw,hl,ha,hb⟩|⟨rfl,hw,hl⟩|⟨rfl,hw,hl⟩|⟨rfl,hw,hl,ha,hb⟩
  ·exact absurd rfl hk0
  ·simp only[mi] at hw
   obtain⟨x,hx⟩:∃ x,l[1]?=some x:=⟨_,aO (by omega)⟩
   obtain⟨bx,ox,A1,c1,ex,hgx,x0,x1,x2,x3,x4,hcx,hKx⟩:=xQ.o.gy _ (aG _ _) 1 x hx
   subst ex
   rw[Nat.one_mul] at x0 x1 x2 x3 x4
   have hsx:x.s.size≤600:=yh (Z5.o x (aN hx))
   have HN:=ae (fun w'=>oK x (aS hsx (by decide)) A1 c1 w')
   have hbp:Hid (eU 1 l=.mk 1 x.s [] [] [] [] [] []):=ae (by unfold eU;rw[if_pos rfl,getD_some hx])
   have Ns:Hid (yg 1 l→nameB x.s=true):=ae (fun h=>by rcases h with⟨_,h⟩|⟨h,_⟩;rw[getD_some hx] at h;exact h;exact absurd h (by decide))
   have hbr:Hid (nameB x.s=true→iR 1 l a (0,0)=(0,0)):=ae (fun h=>by unfold iR;rw[if_pos rfl,getD_some hx];unfold jl;rw[if_pos h])
   have hm1:1<ln:=by rw[kC.o];omega
   have hm2:(1:Int)<(ln:Int):=by omega
   have hcs:=vP (nameB x.s) x.s x.at_
   generalize (bif nameB x.s then x.s else ⟨#[]⟩)=r1 at *
   generalize (bif nameB x.s then (0:Int) else 20)=r2 at *
   generalize (bif nameB x.s then (0:Int) else x.at_)=r3 at *
   have hq4:w4.cell? ⟨bx,ox+5,none⟩=some (.int .i64 x.k)∧w4.cell? ⟨bx,ox+5+1,none⟩=some (.string x.s)∧w4.cell? ⟨bx,ox+5+2,none⟩=some (.int .i64 x.n)∧w4.cell? ⟨bx,ox+5+3,none⟩=some (.slice A1 x.kids.length c1)∧w4.cell? ⟨bx,ox+5+4,none⟩=some (.int .i64 x.at_):=⟨(CS.o.cell hgx).trans x0,(CS.o.cell hgx).trans x1,(CS.o.cell hgx).trans x2,(CS.o.cell hgx).trans x3,(CS.o.cell hgx).trans x4⟩
   obtain⟨y0,y1,y2,y3,y4⟩:=hq4
   have hne:bx≠w2.heap.size:=by omega
   obtain⟨xk,xs,xn,xl,xa⟩:=x
   simp only[T.val,T.k,T.s,T.n,T.kids,T.at_] at y0 y1 y2 y3 y4 HN hbp hbr hcs Ns
   clear hx hcx hKx x0 x1 x2 x3 x4 hsx
   generalize xl.length=xm at *
   obtain⟨d0,d1,d2,d3,d4,d5,d6,d7,f0,f1,f2,f3,f4,f5,f6,f7⟩:=dO zX.o
   go_wp2_with fail
   refine (HN.o _).mono ?_
   rintro e w6 ⟨rfl,hb6⟩
   have Ny:=ae ((hb6.block w2.heap.size (by simp[World.setCell];omega)).trans (jm (k:=0) (u:=.int .i64 1) zX.o))
   have hs6:=hb6.size
   have kD:=ae (((CS.o.setCell (p:=⟨w2.heap.size,0,none⟩) (aF _) (.int .i64 1))).trans (hb6.mono (by simp[World.setCell];omega)))
   clear hb6
   clear d0 d1 d2 d3 d4 d5 d6 d7 f0 f1 f2 f3 f4 f5 f6 f7
   obtain⟨d0,d1,d2,d3,d4,d5,d6,d7,f0,f1,f2,f3,f4,f5,f6,f7⟩:=dO Ny.o
   go_wp2_with fail
   go_meet
   case rel =>
    have h67:w2.heap.size<w6.heap.size:=by have:=(aU.1 Ny.o).1;exact this
    refine⟨_,_,none,0,0,rfl,rfl,rfl,kD.o.setCell (p:=⟨w2.heap.size,1,none⟩) (aF _) _,by simp[World.setCell];exact h67,fun h0=>⟨ru,rfl,aX _,?_,?_,?_,?_⟩,fun hy hb=>?_⟩
    ·rw[show dY 1=0 from rfl,Nat.sub_zero,List.drop_length];exact .nil _
    ·rcases hcs with⟨hn,e1,e2,e3⟩|⟨_,e2⟩
     ·rw[hbp.o]
      subst e1
      exact jm (k:=1) Ny.o
     ·rw[e2] at h0;exact absurd h0 (by decide)
    ·rw[hbp.o];exact kJ _ _ _ _
    ·rcases hcs with⟨hn,e1,e2,e3⟩|⟨_,e2⟩
     ·exact hbr.o hn
     ·rw[e2] at h0;exact absurd h0 (by decide)
    ·rcases hcs with⟨hn,e1,e2,e3⟩|⟨hn,_⟩
     ·exact hy e2
     ·rw[Ns.o hb] at hn;cases hn
  ·simp only[kT] at hw
   obtain⟨x,hx⟩:∃ x,l[1]?=some x:=⟨_,aO (by omega)⟩
   obtain⟨bx,ox,A1,c1,ex,hgx,x0,x1,x2,x3,x4,hcx,hKx⟩:=xQ.o.gy _ (aG _ _) 1 x hx
   subst ex
   rw[Nat.one_mul] at x0 x1 x2 x3 x4
   have hfx:=Il x (Z5.o x (aN hx))
   have hle:ln=3:=by rw[kC.o];exact hl
   subst hle
   have hcl:3≤c:=by rw[hl] at hc;exact hc
   have abQ:¬c=2:=by omega
   have hsz:(w4.setCell ⟨w2.heap.size,0,none⟩ (.int .i64 2)).heap.size=w4.heap.size:=by simp[World.setCell]
   obtain⟨wk,JM⟩:∃ wk,wk=(w4.setCell ⟨w2.heap.size,0,none⟩ (.int .i64 2)).alloc (.cells #[.int .i64 0,.string ⟨#[]⟩,.int .i64 0,.slice none 0 0] 38):=⟨_,rfl⟩
   have hbk:Below w2.heap.size w2 wk:=by rw[JM];exact (CS.o.setCell (p:=⟨w2.heap.size,0,none⟩) (aF _) _).alloc (by rw[hsz];omega) _
   have hsk:wk.heap.size=w4.heap.size+1:=by rw[JM];simp[World.setCell]
   have hek:wk.heap[w4.heap.size]?=some (.cells #[.int .i64 0,.string ⟨#[]⟩,.int .i64 0,.slice none 0 0] 38 (0,0)):=by rw[JM,←hsz];exact aH _ _
   have hpk:wk.heap[w2.heap.size]?=some (.cells #[.int .i64 2,.string ⟨#[]⟩,.slice none 0 0,.slice none 0 0,.slice none 0 0,.slice none 0 0,.slice none 0 0,.slice none 0 0] 27 (0,0)):=by rw[JM];exact (aP _ _ _ (by rw[hsz];exact We)).trans (jm (k:=0) zX.o)
   have HN:=ae (BV x hfx A1 c1 wk hcx ((hKx.low hbk).more (by omega)))
   obtain⟨R,hR⟩:∃ R,R=dX x:=⟨_,rfl⟩
   rw[←hR] at HN
   have hbp:Hid (eU 2 l=.mk 2 ⟨#[]⟩ [R.1] [] [] [] [] []):=ae (by unfold eU;rw[if_neg (by decide),if_pos rfl,getD_some hx,hR])
   have hbr:Hid (R.2.1=0→iR 2 l a (0,0)=(0,0)):=ae (fun h=>by unfold iR;rw[if_neg (by decide),if_pos rfl,getD_some hx];unfold qo;rw[if_pos (by rw[←hR];exact h)])
   have q0:=(hbk.cell hgx).trans x0
   have q1:=(hbk.cell hgx).trans x1
   have q2:=(hbk.cell hgx).trans x2
   have q3:=(hbk.cell hgx).trans x3
   have q4:=(hbk.cell hgx).trans x4
   have HWK:=ae JM
   have HBK:=ae hbk
   have HEK:=ae hek
   have FQ:=ae hpk
   have HSK:=ae hsk
   have HDR:Hid (l.drop (l.length-dY 2)=(l.drop 2).take 1):=ae (by rw[hl,bJ (by rw[List.length_drop];omega)];rfl)
   have Nl:=ae hl
   obtain⟨⟨ek,es,en,el⟩,y,z⟩:=R
   obtain⟨xk,xs,xn,xl,xa⟩:=x
   simp only[T.val,E.val,E.k,E.s,E.n,E.kids,T.k,T.s,T.n,T.kids,T.at_] at q0 q1 q2 q3 q4 HN hbp hbr
   obtain⟨em,hem⟩:∃ em,em=el.length:=⟨_,rfl⟩
   rw[←hem] at HN
   have yt:=ae hem
   clear hx hcx hKx x0 x1 x2 x3 x4 JM hbk hek hpk hR hfx hem hsz hl hc
   generalize xl.length=xm at *
   obtain⟨d0,d1,d2,d3,d4,d5,d6,d7,f0,f1,f2,f3,f4,f5,f6,f7⟩:=dO zX.o
   go_upto_region 14 with (fail)
   rw[←HWK.o]
   go_wp2_with fail
   refine (HN.o).mono ?_
   rintro e w6 ⟨⟨A6,c6,rfl,Eh⟩,hb6⟩
   have hs6:=hb6.size
   have Gi:=ae Eh
   have kD:=ae (HBK.o.trans (hb6.mono HBK.o.size))
   have Ny:=ae ((hb6.block w2.heap.size (by have:=HSK.o;omega)).trans FQ.o)
   have HE6:=ae ((hb6.block w4.heap.size (by have:=HSK.o;omega)).trans HEK.o)
   obtain⟨w7,CU⟩:∃ w7,w7=qL w6 w4.heap.size (.int .i64 ek) (.string es) (.int .i64 en) (.slice A6 em c6):=⟨_,rfl⟩
   have HW7:Hid (w7=(((w6.setCell ⟨w4.heap.size,0,none⟩ (.int .i64 ek)).setCell ⟨w4.heap.size,1,none⟩ (.string es)).setCell ⟨w4.heap.size,2,none⟩ (.int .i64 en)).setCell ⟨w4.heap.size,3,none⟩ (.slice A6 em c6)):=ae (by rw[CU];rfl)
   have H7B:Hid (w7.heap[w4.heap.size]?=some (.cells #[.int .i64 ek,.string es,.int .i64 en,.slice A6 em c6] 38 (0,0))):=ae (by rw[CU];exact eY HE6.o)
   have YO:Hid (w7.heap.size=w6.heap.size):=ae (by rw[CU];simp[qL,World.setCell])
   have H7O:Hid (∀ k,k≠w4.heap.size→w7.heap[k]?=w6.heap[k]?):=ae (fun k hk=>by rw[CU];exact kF hk)
   have H7L:Hid (Below w2.heap.size w2 w7):=ae (by rw[CU];exact fC kD.o (bV We))
   have H7P:=ae ((H7O.o w2.heap.size (by omega)).trans Ny.o)
   obtain⟨⟨e0,e1,e2,e3⟩,u0,u1,u2,u3⟩:=fQ HE6.o
   clear Eh hb6 CU q0 q1 q2 q3 q4
   clear d0 d1 d2 d3 d4 d5 d6 d7 f0 f1 f2 f3 f4 f5 f6 f7
   go_upto_region 15 with (fail)
   rw[←HW7.o]
   clear e0 e1 e2 e3 u0 u1 u2 u3
   obtain⟨⟨e0,e1,e2,e3⟩,_,_,_,_⟩:=fQ H7B.o
   obtain⟨d0,d1,d2,d3,d4,d5,d6,d7,f0,f1,f2,f3,f4,f5,f6,f7⟩:=dO ((aP w7 (Obj.cells #[.int .i64 ek,.string es,.int .i64 en,.slice A6 em c6] 38) w2.heap.size (by have:=YO.o;omega)).trans H7P.o)
   go_wp2_with fail
   go_meet
   case rel =>
    have h7s:=YO.o
    have hsk:=HSK.o
    have hne:w7.heap.size≠w2.heap.size:=by omega
    refine⟨_,_,_,_,_,rfl,rfl,rfl,(H7L.o.alloc (by omega) _).setCell (p:=⟨w2.heap.size,2,none⟩) (aF _) _,by simp[World.setCell];omega,fun h0=>⟨{ ru with ea:=some ⟨w7.heap.size,0,none⟩,ec:=1 },rfl,by rw[Nl.o];decide,?_,?_,⟨?_,.inl rfl,.inl rfl,.inl rfl,.inl rfl,by rw[hbp.o];simp[P.ex],by rw[hbp.o];simp[P.cols],by rw[hbp.o];simp[P.left],by rw[hbp.o];simp[P.right],by rw[hbp.o];simp[P.ag]⟩,hbr.o h0⟩,fun _=>qY (by decide) (by decide)⟩
    ·rw[HDR.o]
     exact xQ.o.sub 2 1
    ·rw[hbp.o]
     exact jm (k:=2) ((aP w7 _ w2.heap.size (by omega)).trans H7P.o)
    ·rw[hbp.o]
     refine Hz (e:=.mk ek es en el) (A:=A6) (c:=c6) (t:=38) ?_ ?_ ?_
     ·refine (aI _ ⟨w2.heap.size,2,none⟩ _ _ hne).trans ?_
      show (w7.alloc _).heap[_]?=some (Obj.cells #[.int .i64 ek,.string es,.int .i64 en,.slice A6 el.length c6] _ _)
      rw[←yt.o]
      exact aH w7 _
     ·refine⟨by omega,?_⟩
      simp[World.setCell]
     ·refine (Gi.o.kept fun k hk=>(aI _ ⟨w2.heap.size,2,none⟩ _ k (by show k≠w2.heap.size;have:=hk.1;omega)).trans ((aP w7 _ k (by have:=hk.2;omega)).trans (H7O.o k (by have:=hk.1;omega)))).mono fun k hk=>⟨by have:=hk.1;omega,?_⟩
      have:=hk.2
      simp[World.setCell]
      omega
  ·as_aux_lemma =>
    simp only[jR] at hw
    obtain⟨x,hx⟩:∃ x,l[1]?=some x:=⟨_,aO (by omega)⟩
    obtain⟨bx,ox,A1,c1,ex,hgx,_⟩:=xQ.o.gy _ (aG _ _) 1 x hx
    subst ex
    obtain⟨m,en,hm,hen,Np,q1,q2,q3,q4,q5,q6,q7,q8,q9,q10⟩:=MB (i:=1) (by decide) kC.o hl hc Aw
    have Jo:=ae hen
    have Ei:=ae (CX (i:=1) hm)
    have Ov:=ae (fun j (hj:j<m)=>CY (i:=1) hm hj)
    have Uc:Hid (∀ j,j<m→∃ t,l[1+j]?=some t):=ae (fun j (hj:j<m)=>IW (i:=1) hm hj)
    have C9:=ae (List.all_eq_true.1 ha)
    have hbp:Hid (eU 3 l=.mk 3 ⟨#[]⟩ ((fV l 1).map wW) ((fV l 1).map oP) [] [] [] []):=ae rfl
    have hbr:Hid ((∀ e∈fV l 1,nameB (oP e)=true∧(dX (e.kids.getD 1 dW)).2.1=0)→iR 3 l a (0,0)=(0,0)):=ae (fun h=>Pv h _)
    have HDR:Hid (l.drop (l.length-dY 3)=(l.drop en).take 1):=ae (by rw[hen,hm,bJ (by rw[List.length_drop];omega)];rfl)
    have Nl:=ae hm
    have hbk:=ae (CS.o.setCell (p:=⟨w2.heap.size,0,none⟩) (aF _) (.int .i64 3))
    have FQ:=ae (jm (k:=0) (u:=.int .i64 3) zX.o)
    clear hx hl hc ha hm hen
    obtain⟨d0,d1,d2,d3,d4,d5,d6,d7,f0,f1,f2,f3,f4,f5,f6,f7⟩:=dO zX.o
    go_upto_region 20 with (fail)
    obtain⟨wk,JM⟩:∃ wk,wk=w4.setCell ⟨w2.heap.size,0,none⟩ (.int .i64 3):=⟨_,rfl⟩
    rw[←JM] at hbk FQ ⊢
    have hsk:wk.heap.size=w4.heap.size:=by rw[JM];simp[World.setCell]
    have hpk:w2.heap.size<wk.heap.size:=aQ We hsk.symm
    clear d0 d1 d2 d3 d4 d5 d6 d7 f0 f1 f2 f3 f4 f5 f6 f7
    clear JM hsk
    obtain⟨iS,iS1,iS2,iS3,iS4⟩:=info_parts rW
    obtain⟨iE,iE1,iE2,iE3,iE4⟩:=info_parts wH
    generalize hmd:fV l 1=mid at *
    clear hmd
    go_loopw [7,8,11] (fun s7 s8 i wr=>Z4 w2.heap.size w2 wk mid s7 s8 i wr) (fun _ _ i _=>m+1-(intOf i).toNat)
    case atStart=>exact⟨0,.slice none 0 0,.slice none 0 0,[],[],0,0,aX _,rfl,rfl,rfl,rfl,rfl,⟨FQ.o,⟨rfl,.inl ⟨rfl,rfl⟩⟩,⟨rfl,.inl ⟨rfl,rfl⟩⟩,(fun p hp=>by cases hp),(fun k e=>by cases e),hbk.o,aF _⟩,fun _=>⟨by simp,by simp,fun c hc=>by simp at hc⟩⟩
    case round =>
     obtain⟨j,v2,v3,ps,cs,y,z,hj,rfl,rfl,rfl,hpl,hcl,hC,hz⟩:=hrel
     rw[Ei.o] at hj
     have HC:=ae hC
     have HZ:=ae hz
     have lV:=ae hpl
     have lG:=ae hcl
     have CZ:=hC.size
     have hpr:w2.heap.size<wr.heap.size:=aK hpk CZ
     clear hC hz hpl hcl
     by_cases hrun:j<m∧y=0
     ·obtain⟨hlt2,rfl⟩:=hrun
      obtain⟨t,ht⟩:=Uc.o j hlt2
      have HTM:=ae ((Ov.o j hlt2).trans ht)
      obtain⟨p,q,hk,hk2⟩:=BK (C9.o t (aN HTM.o))
      obtain⟨bt,ot,A5,c5,et,hgt,t0,t1,t2,t3,t4,hct,hKt⟩:=xQ.o.gy _ (aG _ _) (1+j) t ht
      obtain⟨rfl,rfl⟩:bx=bt∧ox=ot:=by injection et with et;injection et with e1 e2;exact⟨e1,e2⟩
      obtain⟨hlt',hst'⟩:=jO (Z5.o t (aN ht))
      rw[hk2] at t3
      rw[hk] at hKt hst'
      have Xm:=ae hk
      have hidx:1+j=j+1:=Nat.add_comm _ _
      rw[hidx] at t3
      have hgp:T.Good p:=hst' p (by simp)
      have hgq:T.Good q:=hst' q (by simp)
      obtain⟨b2,o2,A6,c6,e6,hg2,p0,p1,p2,p3,p4,hcp,hKp⟩:=hKt.gy _ (aG _ _) 0 p rfl
      obtain⟨b3,o3,A7,c7,e7,hg3,r0,r1,r2,r3,r4,hcq,hKq⟩:=hKt.gy _ (aG _ _) 1 q rfl
      obtain⟨rfl,rfl⟩:b2=b3∧o2=o3:=by rw[e6] at e7;injection e7 with e7;injection e7 with e1 e2;exact⟨e1,e2⟩
      subst e6
      rw[Nat.zero_mul,Nat.add_zero] at p0 p1 p2 p3 p4
      rw[Nat.one_mul] at r0 r1 r2 r3 r4
      have Py:=HC.o.bel
      have y3:=(Py.cell hgt).trans t3
      have s0:=(Py.cell hg2).trans p0
      have s1:=(Py.cell hg2).trans p1
      have s2:=(Py.cell hg2).trans p2
      have s3:=(Py.cell hg2).trans p3
      have s4:=(Py.cell hg2).trans p4
      have HN:=ae (oK p (aS (yh hgp) (by decide)) A6 c6 wr)
      have hcs:=vP (nameB p.s) p.s p.at_
      have HQ:=ae (bU t3 (bU r0 (bU r1 (bU r2 (bU r3 r4)))))
      have Js:=ae (fun w' (hb:Below w2.heap.size w2 w')=>BV q (Il q hgq) A7 c7 w' hcq ((hKq.low hb).more hb.size))
      obtain⟨Wh,YP⟩:=V7 Jo.o hlt2
      obtain⟨Wi,aiv,aiw⟩:=YM Jo.o hlt2 q5
      have hjm:j≤600:=aS hj Np
      obtain⟨R,hR⟩:∃ R,R=dX q:=⟨_,rfl⟩
      rw[←hR] at Js
      have HRR:=ae hR
      have uK:Hid (∀ r1,p.s=r1→oP t=r1):=ae (fun r1 h=>by unfold oP;rw[hk];exact h)
      have HQE:Hid (wW t=R.1∧(dX (t.kids.getD 1 dW)).2.1=R.2.1):=ae (by unfold wW;rw[hk,hR];exact⟨rfl,rfl⟩)
      generalize (bif nameB p.s then p.s else ⟨#[]⟩)=u1 at *
      generalize (bif nameB p.s then (0:Int) else 20)=u2 at *
      generalize (bif nameB p.s then (0:Int) else p.at_)=u3 at *
      clear hk hk2 hKt hst' hct hlt' p0 p1 p2 p3 p4 r0 r1 r2 r3 r4 t0 t1 t2 t3 t4 hcp hKp hcq hKq Py e7 et hidx hR ht hgp
      obtain⟨⟨ek,es,eN,el⟩,yy,zz⟩:=R
      obtain⟨pk,pn,pN,pl,pa⟩:=p
      obtain⟨qk,qn,qN,ql,qa⟩:=q
      simp only[T.val,E.val,E.k,E.s,E.n,E.kids,T.k,T.s,T.n,T.kids,T.at_] at s0 s1 s2 s3 s4 HN hcs HQ Js uK HQE
      generalize pl.length=pm at *
      generalize ql.length=qm at *
      obtain⟨em,hem⟩:∃ em,em=el.length:=⟨_,rfl⟩
      rw[←hem] at Js
      have yt:=ae hem
      clear hem hgq
      go_upto_region 23 with (fail)
      rcases hcs with⟨hn,rfl,rfl,rfl⟩|⟨hn,rfl⟩
      ·have HNB:=ae hn
       go_wp2_with fail
       refine (HN.o).mono ?_
       rintro e w8 ⟨rfl,hb8⟩
       have uM:=ae hb8
       have hs8:=hb8.size
       obtain⟨wx,iK⟩:∃ wx,wx=w8.alloc (.cells #[.int .i64 0,.string ⟨#[]⟩,.int .i64 0,.slice none 0 0] 38):=⟨_,rfl⟩
       have hbx:Below w8.heap.size w8 wx:=by rw[iK];exact (aG _ _).alloc (aF _) _
       have hnx:wx.heap[w8.heap.size]?=some (.cells #[.int .i64 0,.string ⟨#[]⟩,.int .i64 0,.slice none 0 0] 38 (0,0)):=by rw[iK];exact aH w8 _
       have hsx:w8.heap.size<wx.heap.size:=by rw[iK];simp
       have abR:Below wr.heap.size wr wx:=hb8.trans (hbx.mono hs8)
       have MC:Below w2.heap.size w2 wx:=HC.o.bel.trans (abR.mono (bV hpr))
       have BH:=ae hnx
       have ni:=ae iK
       have Pz:=ae abR
       have HCR:=ae (Js.o wx MC)
       obtain⟨t3,r0,r1,r2,r3,r4⟩:=HQ.o
       have y3':=(MC.cell hgt).trans t3
       have o0:=(MC.cell hg2).trans r0
       have o1:=(MC.cell hg2).trans r1
       have o2':=(MC.cell hg2).trans r2
       have o3:=(MC.cell hg2).trans r3
       have o4:=(MC.cell hg2).trans r4
       clear hb8 y3 s0 s1 s2 s3 s4 hbx hnx iK abR MC t3 r0 r1 r2 r3 r4 hn HN Js
       go_upto_region 26 with (fail)
       rw[←ni.o]
       go_wp2_with fail
       refine (HCR.o).mono ?_
       rintro e w9 ⟨⟨A9,c9,rfl,yu⟩,QY⟩
       have GI:=ae yu
       have hs9:=QY.size
       have HN9:=ae ((QY.block w8.heap.size hsx).trans BH.o)
       have aix:=ae (Pz.o.trans (QY.mono Pz.o.size))
       obtain⟨w10,Tz⟩:∃ w10,w10=qL w9 w8.heap.size (.int .i64 ek) (.string es) (.int .i64 eN) (.slice A9 em c9):=⟨_,rfl⟩
       have aiy:Hid (w10=(((w9.setCell ⟨w8.heap.size,0,none⟩ (.int .i64 ek)).setCell ⟨w8.heap.size,1,none⟩ (.string es)).setCell ⟨w8.heap.size,2,none⟩ (.int .i64 eN)).setCell ⟨w8.heap.size,3,none⟩ (.slice A9 em c9)):=ae (by rw[Tz];rfl)
       have aiz:Hid (w10.heap[w8.heap.size]?=some (.cells #[.int .i64 ek,.string es,.int .i64 eN,.slice A9 em c9] 38 (0,0))):=ae (by rw[Tz];exact eY HN9.o)
       have abS:Hid (w10.heap.size=w9.heap.size):=ae (by rw[Tz];simp[qL,World.setCell])
       have aiA:Hid (∀ k,k≠w8.heap.size→w10.heap[k]?=w9.heap[k]?):=ae (fun k hk=>by rw[Tz];exact kF hk)
       have aeZ:Hid (Below wr.heap.size wr w10):=ae (by rw[Tz];exact fC aix.o hs8)
       have PD:=ae (HC.o.abL aeZ.o hpk)
       have hv3:Hid (v3.ownBlock≠some w2.heap.size):=ae (sZ PD.o.rY hpk)
       have hv2:Hid (v2.ownBlock≠some w2.heap.size):=ae (sZ PD.o.uF hpk)
       obtain⟨⟨n0,n1,n2,n3⟩,u0,u1',u2,u3⟩:=fQ HN9.o
       clear yu QY Tz y3' o0 o1 o2' o3 o4 HCR
       go_upto_region 27 with (fail)
       rw[←aiy.o]
       clear n0 n1 n2 n3 u0 u1' u2 u3
       obtain⟨d0,d1,d2,d3,d4,d5,d6,d7,f0,f1,f2,f3,f4,f5,f6,f7⟩:=dO PD.o.box
       go_wp2_with (at_builtin;refine wpList_append_lies _ rfl _ _ 23 rfl wk.heap.size 9 iS _ 1 16 Tryz.underlying23 iS1 iS2 iS3 iS4 rfl (by decide) v3 cs.length (strs cs) rfl (PD.o.rY.alloc _) ⟨w10.heap.size,0,none⟩ 1 1 [.string u1] rfl rfl ?ch1 DY (by decide) ?ch3 ?ch4 ?ch5 _ rfl ?_)
       case ch1=>exact bz (aH w10 _)
       case ch3=>exact oq lG.o hjm
       case ch4=>exact lX lG.o hjm (by decide)
       case ch5=>exact aS PD.o.size (dV w10 _ _).size
       intro g' cap QG hown hgrow hat alR
       have Wj:Hid (w10.grownBy QG v3.ownBlock):=ae ((World.grownBy_alloc _ _ _).trans hgrow)
       have aiB:=ae hown
       have Z7:Hid ((Value.slice (some ⟨g',0,none⟩) (cs.length+1) cap).ownBlock=v3.ownBlock∨∃ n,(Value.slice (some ⟨g',0,none⟩) (cs.length+1) cap).ownBlock=some n∧w10.heap.size≤n):=ae (hat.imp (fun h=>h.symm) fun h=>⟨g',rfl,by rw[h];first|exact aW _|exact (dV w10 _ _).size⟩)
       have aiC:w2.heap.size<w10.heap.size:=aK hpr aeZ.o.size
       have aiD:=ae ((Wj.o.block w2.heap.size aiC (fun e=>hv3.o e.symm)).trans PD.o.box)
       have PE:=ae (PD.o.step3 (s:=u1) Wj.o aiB.o Z7.o hpk)
       obtain⟨w12,TA⟩:∃ w12,w12=QG.setCell ⟨w2.heap.size,3,none⟩ (.slice (some ⟨g',0,none⟩) (cs.length+1) cap):=⟨_,rfl⟩
       have Xr:=ae TA
       have H12:=ae (V9 (g:=w8.heap.size) Wj.o aiz.o (fun e=>by have:=(HC.o.rY.lt _ e).2;omega) (by omega:w8.heap.size≠w2.heap.size) TA)
       have HXK:=ae (Tu (lo:=wx.heap.size) (hi:=w9.heap.size) (b:=w8.heap.size) GI.o rfl aiA.o abS.o Wj.o (fun k e=>(HC.o.rY.lt k e).2) Pz.o.size hsx (aK hpr Pz.o.size) TA)
       have aiE:Hid (w9.heap.size≤w12.heap.size):=ae (by rw[TA,←abS.o];exact aS Wj.o.size (Nat.le_of_eq (by simp[World.setCell])))
       have HZ3:Hid (∀ k,(Value.slice (some ⟨g',0,none⟩) (cs.length+1) cap).ownBlock=some k→k<wx.heap.size∨w9.heap.size≤k):=ae (abP Z7.o (fun k e=>aK (HC.o.rY.lt k e).2 Pz.o.size) (Nat.le_of_eq abS.o.symm))
       rw[←TA] at PE
       clear hown hgrow hat TA
       clear d0 d1 d2 d3 d4 d5 d6 d7 f0 f1 f2 f3 f4 f5 f6 f7
       obtain⟨d0,d1,d2,d3,d4,d5,d6,d7,f0,f1,f2,f3,f4,f5,f6,f7⟩:=dO aiD.o
       go_upto_region 28 with (fail)
       rw[←Xr.o]
       clear d0 d1 d2 d3 d4 d5 d6 d7 f0 f1 f2 f3 f4 f5 f6 f7
       obtain⟨d0,d1,d2,d3,d4,d5,d6,d7,f0,f1,f2,f3,f4,f5,f6,f7⟩:=dO PE.o.box
       obtain⟨⟨n0,n1,n2,n3⟩,_,_,_,_⟩:=fQ H12.o
       go_wp2_with (at_builtin;refine wpList_append_lies _ rfl _ _ 22 rfl wk.heap.size 38 iE _ 4 56 Tryz.underlying22 iE1 iE2 iE3 iE4 rfl (by decide) v2 ps.length (kN ps) rfl (PE.o.uF.alloc _) ⟨w12.heap.size,0,none⟩ 1 1 [.int .i64 ek,.string es,.int .i64 eN,.slice A9 em c9] rfl rfl ?ci1 ?ci2 (by decide) ?ci3 ?ci4 ?ci5 _ rfl ?_)
       case ci1=>exact bz (aH w12 _)
       case ci2=>intro u hu;simp only[bZ,bI,or_false] at hu;rcases hu with rfl|rfl|rfl|rfl <;> rfl
       case ci3=>exact oq lV.o hjm
       case ci4=>exact lX lV.o hjm (by decide)
       case ci5=>exact aS PE.o.size (dV w12 _ _).size
       intro g2' cap2 w13 hown hgrow hat alS
       have ae0:Hid (w12.grownBy w13 v2.ownBlock):=ae ((World.grownBy_alloc _ _ _).trans hgrow)
       have aiF:=ae hown
       have ae1:Hid ((Value.slice (some ⟨g2',0,none⟩) (ps.length+1) cap2).ownBlock=v2.ownBlock∨∃ n,(Value.slice (some ⟨g2',0,none⟩) (ps.length+1) cap2).ownBlock=some n∧w12.heap.size≤n):=ae (hat.imp (fun h=>h.symm) fun h=>⟨g2',rfl,by rw[h];first|exact aW _|exact (dV w12 _ _).size⟩)
       have aiG:=ae ((ae0.o.block w2.heap.size (by have:=(aU.1 PE.o.box).1;exact this) (fun e=>hv2.o e.symm)).trans PE.o.box)
       clear hown hgrow hat n0 n1 n2 n3
       clear d0 d1 d2 d3 d4 d5 d6 d7 f0 f1 f2 f3 f4 f5 f6 f7
       obtain⟨d0,d1,d2,d3,d4,d5,d6,d7,f0,f1,f2,f3,f4,f5,f6,f7⟩:=dO aiG.o
       have HEP:Hid (EP.cs ((.mk ek es eN el:E),A9,c9)=[.int .i64 ek,.string es,.int .i64 eN,.slice A9 em c9]):=ae (by rw[yt.o];rfl)
       go_wp2_with fail
       go_roundw
       case measure=>exact abO hlt2
       case rel=>exact Px HTM.o lV.o lG.o (PE.o.step2 (x:=((.mk ek es eN el:E),A9,c9)) ae0.o (by rw[HEP.o];exact aiF.o) ae1.o HXK.o aiE.o (aS CZ Pz.o.size) (fun k e=>aK (HC.o.uF.lt k e).2 Pz.o.size) HZ3.o hpk) (HZ.o (by first|rfl|trivial)) (uK.o u1 rfl) HNB.o HQE.o
      ·go_wp2_with fail
       refine (HN.o).mono ?_
       rintro e w8 ⟨rfl,hb8⟩
       have uM:=ae (HC.o.bel.trans (hb8.mono (bV hpr)))
       have hs8:=hb8.size
       clear hb8 y3 s0 s1 s2 s3 s4 HN Js
       go_wp2_with fail
       go_meet
       case rel=>exact⟨_,_,_,_,_,rfl,rfl,rfl,uM.o,aK hpr hs8,fun h0=>absurd h0 (by decide),fun _=>qY (by decide) (by decide)⟩
     ·by_cases hy:y=0
      ·subst hy
       have hn2:¬j<m:=fun h=>hrun ⟨h,rfl⟩
       obtain rfl:j=m:=Nat.le_antisymm hj (Nat.le_of_not_lt hn2)
       have hz2:=HZ.o (by first|rfl|trivial)
       have htk:mid.take j=mid:=bJ (by rw[Ei.o];exact aF _)
       rw[htk] at hz2
       have hbase:=ae (hbr.o hz2.2.2)
       have hps:Hid (ps.map Prod.fst=mid.map wW):=ae hz2.1
       have hcs:Hid (cs=mid.map oP):=ae hz2.2.1
       have Wi:decide ((j:Int)+1<(en:Int))=false:=decide_eq_false (QE Jo.o hn2).2
       clear hz2 hrun hn2 htk
       go_wp2_with fail
       go_meet
       case rel =>
        have aoT:=lV.o
        have adx:=lG.o
        obtain⟨A2,c2,e2,hX⟩:=wF HC.o.uF (by omega) (S:=fun k=>w2.heap.size<k∧k<wr.heap.size) (fun k k1 k2=>⟨by omega,k2⟩) (fun p hp'=>(HC.o.kids p hp').mono fun k hk=>⟨by have:=hk.1;omega,hk.2.1⟩)
        obtain⟨A3,c3,e3,hc3,hL⟩:=oH HC.o.rY (S:=fun k=>w2.heap.size<k∧k<wr.heap.size) (fun k k1 k2=>⟨by omega,k2⟩)
        subst e2 e3
        refine⟨_,_,_,_,_,rfl,rfl,rfl,HC.o.bel,hpr,fun h0=>⟨{ ru with ea:=A2,ec:=c2,ca:=A3,cc:=c3 },?_,by rw[Nl.o,show dY 3=1 from rfl];omega,?_,?_,⟨?_,?_,.inl rfl,.inl rfl,.inl rfl,?_,?_,by rw[hbp.o];simp[P.left],by rw[hbp.o];simp[P.right],by rw[hbp.o];simp[P.ag]⟩,hbase.o⟩,fun _=>qY (by decide) (by decide)⟩
        ·first|rfl|exact q10
        ·rw[HDR.o]
         exact xQ.o.sub en 1
        ·rw[HC.o.box,hbp.o]
         simp only[P.k,P.nm,P.ex,P.cols,P.left,P.right,P.ag,hps.o,hcs.o]
         rfl
        ·rw[hbp.o];rw[hps.o] at hX;exact hX
        ·rw[hbp.o,←hcs.o];exact hL
        ·rw[hbp.o,←hps.o];simp only[P.ex,bM];omega
        ·rw[hbp.o,←hcs.o];show cs.length≤_;omega
      ·have hy1:(y==0)=false:=by simpa using hy
       by_cases hlt2:j<m
       ·obtain⟨Wh,YP⟩:=V7 Jo.o hlt2
        go_wp2_with fail
        go_meet
        case rel=>exact⟨_,_,_,_,_,rfl,rfl,rfl,HC.o.bel,hpr,fun h0=>absurd h0 hy,fun _=>qY (by decide) (by decide)⟩
       ·have Wi:decide ((j:Int)+1<(en:Int))=false:=decide_eq_false (QE Jo.o hlt2).2
        clear hlt2
        go_wp2_with fail
        go_meet
        case rel=>exact⟨_,_,_,_,_,rfl,rfl,rfl,HC.o.bel,hpr,fun h0=>absurd h0 hy,fun _=>qY (by decide) (by decide)⟩
  ·as_aux_lemma =>
    simp only[oV] at hw
    obtain⟨x,hx⟩:∃ x,l[1]?=some x:=⟨_,aO (by omega)⟩
    obtain⟨u,hu⟩:∃ u,l[2]?=some u:=⟨_,aO (by omega)⟩
    obtain⟨bx,ox,A1,c1,ex,hgx,x0,x1,x2,x3,x4,hcx,hKx⟩:=xQ.o.gy _ (aG _ _) 1 x hx
    obtain⟨bu,ou,A2,c2,eu,hgu,u0,u1,u2,u3,u4,hcu,hKu⟩:=xQ.o.gy _ (aG _ _) 2 u hu
    obtain⟨rfl,rfl⟩:bx=bu∧ox=ou:=by rw[ex] at eu;injection eu with eu;injection eu with e1 e2;exact⟨e1,e2⟩
    subst ex
    clear eu
    rw[Nat.one_mul] at x0 x1 x2 x3 x4
    obtain⟨hlx,hsx⟩:=jO (Z5.o x (aN hx))
    obtain⟨hlu,hsu⟩:=jO (Z5.o u (aN hu))
    have hle:ln=5:=by rw[kC.o];exact hl
    subst hle
    have hcl:5≤c:=by rw[hl] at hc;exact hc
    have abQ:¬c=3:=by omega
    have Uw:=ae (fun w' (hb:Below w2.heap.size w2 w')=>tZ x.kids hlx (fun e he=>yh (hsx e he)) A1 c1 w' ((hKx.low hb).more hb.size))
    have Jc:=ae (fun w' (hb:Below w2.heap.size w2 w')=>tZ u.kids hlu (fun e he=>yh (hsu e he)) A2 c2 w' ((hKu.low hb).more hb.size))
    have hbp:Hid (eU 4 l=.mk 4 ⟨#[]⟩ [] [] (x.kids.map T.s) (u.kids.map T.s) [] []):=ae (by unfold eU;rw[if_neg (by decide),if_neg (by decide),if_neg (by decide),if_pos rfl,getD_some hx,getD_some hu])
    have hbr:Hid ((∀ e∈x.kids,nameB e.s=true)→(∀ e∈u.kids,nameB e.s=true)→iR 4 l a (0,0)=(0,0)):=ae (fun h1 h2=>by unfold iR;rw[if_neg (by decide),if_neg (by decide),if_neg (by decide),if_pos rfl,getD_some hx,getD_some hu,vY h1,vY h2])
    have nO:=ae x3
    have HU3:=ae u3
    have HDR:Hid (l.drop (l.length-dY 4)=(l.drop 3).take 2):=ae (by rw[hl,bJ (by rw[List.length_drop];omega)];rfl)
    have Nl:=ae hl
    have hbk:=ae (CS.o.setCell (p:=⟨w2.heap.size,0,none⟩) (aF _) (.int .i64 4))
    have FQ:=ae (jm (k:=0) (u:=.int .i64 4) zX.o)
    have hq3:=(hbk.o.cell hgx).trans x3
    generalize hxl:x.kids.length=xm at *
    generalize hul:u.kids.length=um at *
    have DV:=ae hxl
    have HUL:=ae hul
    have hne:bx≠w2.heap.size:=by omega
    clear hx hu hcx hKx hcu hKu x0 x1 x2 x3 x4 u0 u1 u2 u3 u4 hsx hsu hl hc hxl hul ha hb
    obtain⟨d0,d1,d2,d3,d4,d5,d6,d7,f0,f1,f2,f3,f4,f5,f6,f7⟩:=dO zX.o
    go_upto_region 32 with (fail)
    obtain⟨wk,JM⟩:∃ wk,wk=w4.setCell ⟨w2.heap.size,0,none⟩ (.int .i64 4):=⟨_,rfl⟩
    rw[←JM] at hbk FQ hq3 ⊢
    have hsk:wk.heap.size=w4.heap.size:=by rw[JM];simp[World.setCell]
    clear d0 d1 d2 d3 d4 d5 d6 d7 f0 f1 f2 f3 f4 f5 f6 f7
    clear JM
    obtain⟨d0,d1,d2,d3,d4,d5,d6,d7,f0,f1,f2,f3,f4,f5,f6,f7⟩:=dO FQ.o
    go_wp2_with fail
    refine (Uw.o wk hbk.o).mono ?_
    rintro e w6 ⟨he,hb6⟩
    have kD:=ae (hbk.o.trans (hb6.mono hbk.o.size))
    have Ny:=ae ((hb6.block w2.heap.size (by omega)).trans FQ.o)
    have hs6:=hb6.size
    clear hb6 hq3
    clear d0 d1 d2 d3 d4 d5 d6 d7 f0 f1 f2 f3 f4 f5 f6 f7
    obtain⟨d0,d1,d2,d3,d4,d5,d6,d7,f0,f1,f2,f3,f4,f5,f6,f7⟩:=dO Ny.o
    rcases he with⟨A4,c4,rfl,hc4,hL4,hn4⟩|⟨a4,rfl,_⟩
    ·have P6:=ae hL4
     have ZR:=ae hn4
     have hxe:Hid (x.kids.length=xm):=DV
     rw[DV.o] at hc4 ⊢
     clear hL4 hn4
     go_upto_region 33 with (fail)
     obtain⟨w7,CU⟩:∃ w7,w7=w6.setCell ⟨w2.heap.size,4,none⟩ (.slice A4 xm c4):=⟨_,rfl⟩
     rw[←CU]
     have Dk:Hid (Below w2.heap.size w2 w7):=ae (by rw[CU];exact kD.o.setCell (p:=⟨w2.heap.size,4,none⟩) (aF _) _)
     have HP7:Hid (w7.heap[w2.heap.size]?=some (.cells #[.int .i64 4,.string ⟨#[]⟩,.slice none 0 0,.slice none 0 0,.slice A4 xm c4,.slice none 0 0,.slice none 0 0,.slice none 0 0] 27 (0,0))):=ae (by rw[CU];exact jm (k:=4) Ny.o)
     have H7O:Hid (∀ k,k≠w2.heap.size→w7.heap[k]?=w6.heap[k]?):=ae (fun k hk=>by rw[CU];exact aI w6 ⟨w2.heap.size,4,none⟩ _ k hk)
     have YO:Hid (w7.heap.size=w6.heap.size):=ae (by rw[CU];simp[World.setCell])
     have hq3:=(Dk.o.cell hgx).trans HU3.o
     clear d0 d1 d2 d3 d4 d5 d6 d7 f0 f1 f2 f3 f4 f5 f6 f7
     clear CU
     go_wp2_with fail
     refine (Jc.o w7 Dk.o).mono ?_
     rintro e w8 ⟨he,hb8⟩
     have hs8:=hb8.size
     have uM:=ae (Dk.o.trans (hb8.mono Dk.o.size))
     have HP8:=ae ((hb8.block w2.heap.size (by have:=YO.o;omega)).trans HP7.o)
     have H8O:Hid (∀ k,k<w7.heap.size→w8.heap[k]?=w7.heap[k]?):=ae (fun k hk=>hb8.block k hk)
     clear hb8 hq3
     obtain⟨d0,d1,d2,d3,d4,d5,d6,d7,f0,f1,f2,f3,f4,f5,f6,f7⟩:=dO HP8.o
     rcases he with⟨A5,c5,rfl,hc5,hL5,Yn⟩|⟨a5,rfl,_⟩
     ·have Ud:=ae hL5
      have Qh:=ae Yn
      rw[HUL.o] at hc5 ⊢
      clear hL5 Yn
      go_wp2_with fail
      go_meet
      case rel =>
       have h7s:=YO.o
       refine⟨_,_,_,_,_,rfl,rfl,rfl,uM.o.setCell (p:=⟨w2.heap.size,5,none⟩) (aF _) _,by simp[World.setCell];omega,fun h0=>⟨{ ru with la:=A4,lc:=c4,ra:=A5,rc:=c5 },rfl,by rw[Nl.o];decide,?_,?_,⟨.nil _,.inl rfl,?_,?_,.inl rfl,by rw[hbp.o];simp[P.ex],by rw[hbp.o];simp[P.cols],?_,?_,by rw[hbp.o];simp[P.ag]⟩,hbr.o ZR.o Qh.o⟩,fun _=>qY (by decide) (by decide)⟩
       ·rw[HDR.o]
        exact xQ.o.sub 3 2
       ·rw[hbp.o]
        simp only[P.k,P.nm,P.ex,P.cols,P.left,P.right,P.ag,bM,DV.o,HUL.o]
        exact jm (k:=5) HP8.o
       ·rw[hbp.o]
        exact (P6.o.kept fun k hk=>(aI _ ⟨w2.heap.size,5,none⟩ _ k (by show k≠w2.heap.size;have:=hk.1;omega)).trans ((H8O.o k (by have:=hk.2;omega)).trans (H7O.o k (by have:=hk.1;omega)))).mono fun k hk=>⟨by have:=hk.1;omega,by have:=hk.2;simp[World.setCell];omega⟩
       ·rw[hbp.o]
        exact (Ud.o.kept fun k hk=>aI _ ⟨w2.heap.size,5,none⟩ _ k (by show k≠w2.heap.size;have:=hk.1;omega)).mono fun k hk=>⟨by have:=hk.1;omega,by have:=hk.2;simp[World.setCell];omega⟩
       ·rw[hbp.o];simp only[P.left,bM,DV.o];exact⟨by omega,hc4⟩
       ·rw[hbp.o];simp only[P.right,bM,HUL.o];exact⟨by omega,hc5⟩
     ·go_wp2_with fail
      go_meet
      case rel =>
       have h7s:=YO.o
       exact⟨_,_,_,_,_,rfl,rfl,rfl,uM.o.setCell (p:=⟨w2.heap.size,5,none⟩) (aF _) _,by simp[World.setCell];omega,fun h0=>absurd h0 (by decide),fun _=>qY (by decide) (by decide)⟩
    ·go_wp2_with fail
     go_meet
     case rel =>
      exact⟨_,_,_,_,_,rfl,rfl,rfl,kD.o.setCell (p:=⟨w2.heap.size,4,none⟩) (aF _) _,by simp[World.setCell];omega,fun h0=>absurd h0 (by decide),fun _=>qY (by decide) (by decide)⟩
  ·simp only[nG] at hw
   have hm1:1≤ln:=by rw[kC.o];omega
   have hm2:(1:Int)≤(ln:Int):=by omega
   have hcl:ln≤c:=by rw[kC.o];exact hc
   have abQ:¬c=1:=by rw[kC.o] at hcl;omega
   have hln:Hid (ln=l.length):=kC
   obtain⟨x,hx⟩:∃ x,l[1]?=some x:=⟨_,aO (by omega)⟩
   obtain⟨bx,ox,A1,c1,ex,hgx,_⟩:=xQ.o.gy _ (aG _ _) 1 x hx
   subst ex
   have hle:ln=3:=by rw[kC.o];exact hl
   subst hle
   clear hx
   obtain⟨d0,d1,d2,d3,d4,d5,d6,d7,f0,f1,f2,f3,f4,f5,f6,f7⟩:=dO zX.o
   go_wp2_with fail
   go_meet
   case rel =>
    refine⟨_,_,_,_,_,rfl,rfl,rfl,CS.o.setCell (p:=⟨w2.heap.size,0,none⟩) (aF _) _,by simp[World.setCell];omega,fun h0=>⟨ru,rfl,by rw[←kC.o];decide,?_,jm (k:=0) zX.o,kJ _ _ _ _,rfl⟩,fun h=>absurd rfl h⟩
    rw[←kC.o]
    have:=xQ.o.sub 1 2
    rw[bJ (by rw[List.length_drop,←kC.o];decide)] at this
    exact this
  ·simp only[jh] at hw
   have hm1:1≤ln:=by rw[kC.o];omega
   have hm2:(1:Int)≤(ln:Int):=by omega
   have hcl:ln≤c:=by rw[kC.o];exact hc
   have abQ:¬c=1:=by rw[kC.o] at hcl;omega
   have hln:Hid (ln=l.length):=kC
   obtain⟨x,hx⟩:∃ x,l[1]?=some x:=⟨_,aO (by omega)⟩
   obtain⟨bx,ox,A1,c1,ex,hgx,_⟩:=xQ.o.gy _ (aG _ _) 1 x hx
   subst ex
   have hle:ln=2:=by rw[kC.o];exact hl
   subst hle
   clear hx
   obtain⟨d0,d1,d2,d3,d4,d5,d6,d7,f0,f1,f2,f3,f4,f5,f6,f7⟩:=dO zX.o
   go_wp2_with fail
   go_meet
   case rel =>
    refine⟨_,_,_,_,_,rfl,rfl,rfl,CS.o.setCell (p:=⟨w2.heap.size,0,none⟩) (aF _) _,by simp[World.setCell];omega,fun h0=>⟨ru,rfl,by rw[←kC.o];decide,?_,jm (k:=0) zX.o,kJ _ _ _ _,rfl⟩,fun h=>absurd rfl h⟩
    rw[←kC.o]
    have:=xQ.o.sub 1 1
    rw[bJ (by rw[List.length_drop,←kC.o];decide)] at this
    exact this
  ·as_aux_lemma =>
    simp only[kZ] at hw
    obtain⟨x,hx⟩:∃ x,l[1]?=some x:=⟨_,aO (by omega)⟩
    obtain⟨bx,ox,A1,c1,ex,hgx,x0,x1,x2,x3,x4,hcx,hKx⟩:=xQ.o.gy _ (aG _ _) 1 x hx
    subst ex
    rw[Nat.one_mul] at x0 x1 x2 x3 x4
    obtain⟨hlx,hsx⟩:=jO (Z5.o x (aN hx))
    obtain⟨m,en,hm,hen,Np,q1,q2,q3,q4,q5,q6,q7,q8,q9,q10⟩:=MB (i:=2) (by decide) kC.o hl hc Aw
    have Jo:=ae hen
    have Ei:=ae (CX (i:=2) hm)
    have Ov:=ae (fun j (hj:j<m)=>CY (i:=2) hm hj)
    have Uc:Hid (∀ j,j<m→∃ t,l[2+j]?=some t):=ae (fun j (hj:j<m)=>IW (i:=2) hm hj)
    have C9:=ae (List.all_eq_true.1 hb)
    have Ns:Hid (yg 7 l→(∀ e∈x.kids,nameB e.s=true)∧∀ e∈fV l 2,Jg e.kids):=ae (fun h=>by rcases h with⟨h,_⟩|⟨_,h⟩;exact absurd h (by decide);rw[getD_some hx] at h;exact h)
    have Uw:=ae (fun w' (hb:Below w2.heap.size w2 w')=>tZ x.kids hlx (fun e he=>yh (hsx e he)) A1 c1 w' ((hKx.low hb).more hb.size))
    have hbp:Hid (eU 7 l=.mk 7 ⟨#[]⟩ [] [] (x.kids.map T.s) [] ((fV l 2).map qE) []):=ae (by unfold eU;rw[if_neg (by decide),if_neg (by decide),if_neg (by decide),if_neg (by decide),if_pos rfl,getD_some hx];rfl)
    have hbr:Hid ((∀ e∈x.kids,nameB e.s=true)→(∀ e∈fV l 2,CO e.kids)→iR 7 l a (0,0)=(0,0)):=ae (fun h1 h2=>by unfold iR;rw[if_neg (by decide),if_neg (by decide),if_neg (by decide),if_neg (by decide),if_neg (by decide),if_neg (by decide),if_pos rfl,getD_some hx,vY h1];exact Po h2 _)
    have HDR:Hid (l.drop (l.length-dY 7)=(l.drop en).take 1):=ae (by rw[hen,hm,bJ (by rw[List.length_drop];omega)];rfl)
    have Nl:=ae hm
    have hbk:=ae (CS.o.setCell (p:=⟨w2.heap.size,0,none⟩) (aF _) (.int .i64 7))
    have FQ:=ae (jm (k:=0) (u:=.int .i64 7) zX.o)
    have hq3:=(hbk.o.cell hgx).trans x3
    generalize hxl:x.kids.length=xm at *
    have DV:=ae hxl
    have hne:bx≠w2.heap.size:=by omega
    clear hx hcx hKx x0 x1 x2 x3 x4 hsx hl hc hxl ha hb hm hen
    obtain⟨d0,d1,d2,d3,d4,d5,d6,d7,f0,f1,f2,f3,f4,f5,f6,f7⟩:=dO zX.o
    go_upto_region 44 with (fail)
    obtain⟨wk,JM⟩:∃ wk,wk=w4.setCell ⟨w2.heap.size,0,none⟩ (.int .i64 7):=⟨_,rfl⟩
    rw[←JM] at hbk FQ hq3 ⊢
    have hsk:wk.heap.size=w4.heap.size:=by rw[JM];simp[World.setCell]
    clear d0 d1 d2 d3 d4 d5 d6 d7 f0 f1 f2 f3 f4 f5 f6 f7
    clear JM
    obtain⟨d0,d1,d2,d3,d4,d5,d6,d7,f0,f1,f2,f3,f4,f5,f6,f7⟩:=dO FQ.o
    go_wp2_with fail
    refine (Uw.o wk hbk.o).mono ?_
    rintro e w6 ⟨he,hb6⟩
    have kD:=ae (hbk.o.trans (hb6.mono hbk.o.size))
    have Ny:=ae ((hb6.block w2.heap.size (by omega)).trans FQ.o)
    have hs6:=hb6.size
    clear hb6 hq3
    clear d0 d1 d2 d3 d4 d5 d6 d7 f0 f1 f2 f3 f4 f5 f6 f7
    obtain⟨d0,d1,d2,d3,d4,d5,d6,d7,f0,f1,f2,f3,f4,f5,f6,f7⟩:=dO Ny.o
    rcases he with⟨A4,c4,rfl,hc4,hL4,hn4⟩|⟨a4,rfl,hno⟩
    ·have P6:=ae hL4
     have ZR:=ae hn4
     rw[DV.o] at hc4 ⊢
     clear hL4 hn4
     obtain⟨iG,iG1,iG2,iG3,iG4⟩:=info_parts J9
     go_upto_region 46 with (fail)
     obtain⟨w7,CU⟩:∃ w7,w7=w6.setCell ⟨w2.heap.size,4,none⟩ (.slice A4 xm c4):=⟨_,rfl⟩
     rw[←CU]
     have Dk:Hid (Below w2.heap.size w2 w7):=ae (by rw[CU];exact kD.o.setCell (p:=⟨w2.heap.size,4,none⟩) (aF _) _)
     have HP7:Hid (w7.heap[w2.heap.size]?=some (.cells #[.int .i64 7,.string ⟨#[]⟩,.slice none 0 0,.slice none 0 0,.slice A4 xm c4,.slice none 0 0,.slice none 0 0,.slice none 0 0] 27 (0,0))):=ae (by rw[CU];exact jm (k:=4) Ny.o)
     have H7O:Hid (∀ k,k≠w2.heap.size→w7.heap[k]?=w6.heap[k]?):=ae (fun k hk=>by rw[CU];exact aI w6 ⟨w2.heap.size,4,none⟩ _ k hk)
     have YO:Hid (w7.heap.size=w6.heap.size):=ae (by rw[CU];simp[World.setCell])
     have ZM:w2.heap.size<w7.heap.size:=by have:=YO.o;omega
     clear d0 d1 d2 d3 d4 d5 d6 d7 f0 f1 f2 f3 f4 f5 f6 f7
     clear CU
     generalize hmd:fV l 2=mid at *
     clear hmd
     go_loopw [7,8,14] (fun s7 s8 i wr=>ZZ w2.heap.size w2 w7 (.slice A4 xm c4) mid s7 s8 i wr) (fun _ _ i _=>m+2-(intOf i).toNat)
     case atStart=>exact⟨0,.slice none 0 0,[],0,0,aX _,rfl,rfl,rfl,rfl,⟨HP7.o,⟨rfl,.inl ⟨rfl,rfl⟩⟩,Dk.o,aF _⟩,fun _ _ _=>rfl,fun _=>⟨by simp,fun c hc=>by simp at hc⟩,fun h=>absurd rfl h⟩
     case round =>
      obtain⟨j,v,gs,y,z,hj,rfl,rfl,rfl,hgl,hG,hold,hz,hzn⟩:=hrel
      have HZN:=ae hzn
      clear hzn
      rw[Ei.o] at hj
      have HG:=ae hG
      have HHO:=ae hold
      have HZ:=ae hz
      have YQ:=ae hgl
      have CZ:=hG.size
      clear hG hold hz hgl
      by_cases hrun:j<m∧y=0
      ·obtain⟨hlt2,rfl⟩:=hrun
       obtain⟨t,ht⟩:=Uc.o j hlt2
       have HTM:=ae ((Ov.o j hlt2).trans ht)
       obtain⟨bt,ot,A5,c5,et,hgt,t0,t1,t2,t3,t4,hct,hKt⟩:=xQ.o.gy _ (aG _ _) (2+j) t ht
       obtain⟨rfl,rfl⟩:bx=bt∧ox=ot:=by injection et with et;injection et with e1 e2;exact⟨e1,e2⟩
       clear et
       have hat:=(I8 (C9.o t (aN HTM.o))).2
       obtain⟨hlt',hst'⟩:=jO (Z5.o t (aN ht))
       obtain⟨wx,iK⟩:∃ wx,wx=wr.alloc (.cells #[.string ⟨#[]⟩,.string ⟨#[]⟩,.string ⟨#[]⟩] 46):=⟨_,rfl⟩
       have hbx:Below wr.heap.size wr wx:=by rw[iK];exact (aG _ _).alloc (aF _) _
       have hnx:wx.heap[wr.heap.size]?=some (.cells #[.string ⟨#[]⟩,.string ⟨#[]⟩,.string ⟨#[]⟩] 46 (0,0)):=by rw[iK];exact aH wr _
       have hsx:wr.heap.size<wx.heap.size:=by rw[iK];simp
       have hwr2:=HG.o.bel.size
       have tH:Below w2.heap.size w2 wx:=HG.o.bel.trans (hbx.mono hwr2)
       have lG:=ae (OG t.kids hat (fun e he=>yh (hst' e he)) A5 c5 wx ((hKt.low tH).more (by omega)))
       have q3:=(tH.cell hgt).trans t3
       have BH:=ae hnx
       have ni:=ae iK
       have xO:=ae hbx
       have hv9:Hid (v.ownBlock≠some w2.heap.size):=ae (sZ HG.o.own ZM)
       have hjm:j≤600:=by omega
       obtain⟨Wh,YP⟩:=V8 Jo.o hlt2
       obtain⟨Wi,aiv,aiw⟩:=YN Jo.o hlt2 q5
       have hidx:2+j=j+2:=Nat.add_comm _ _
       rw[hidx] at q3
       clear t0 t1 t2 t3 t4 hct hKt tH ht hnx iK hbx hat hlt' hst' hidx
       have HAG:Hid (qp t.kids=qE t):=ae rfl
       generalize htl:t.kids.length=tm at *
       have HTL:=ae htl
       clear htl
       go_upto_region 49 with (fail)
       rw[←ni.o]
       go_wp2_with fail
       refine (lG.o).mono ?_
       rintro e w8 ⟨he,hb8⟩
       obtain⟨g0,g1,g2,yy,zz,hee,hgg⟩:∃ (g0 g1 g2:ByteArray)(yy zz:Int),e=.returned (.tuple #[.agg #[.string g0,.string g1,.string g2],.int .i64 yy,.int .i64 zz])∧(yy=0→CO t.kids∧qE t=⟨g0,g1,g2⟩)∧(yy≠0→¬Jg t.kids):=by
        rcases he with⟨hr,he⟩|⟨g0,g1,g2,yy,zz,hy,he,hac⟩
        ·exact⟨_,_,_,_,_,he,fun _=>⟨hr,rfl⟩,fun h=>absurd rfl h⟩
        ·exact⟨_,_,_,_,_,he,fun h=>absurd h hy,fun _=>hac⟩
       subst hee
       have HGG:=ae hgg
       have uM:=ae hb8
       have hs8:=hb8.size
       have HN8:=ae ((hb8.block wr.heap.size hsx).trans BH.o)
       clear he hb8 hgg q3
       obtain⟨w9,ew9⟩:∃ w9,w9=Vr w8 wr.heap.size (.string g0) (.string g1) (.string g2):=⟨_,rfl⟩
       have HW9:Hid (w9=((w8.setCell ⟨wr.heap.size,0,none⟩ (.string g0)).setCell ⟨wr.heap.size,1,none⟩ (.string g1)).setCell ⟨wr.heap.size,2,none⟩ (.string g2)):=ae (by rw[ew9];rfl)
       have H9B:Hid (w9.heap[wr.heap.size]?=some (.cells #[.string g0,.string g1,.string g2] 46 (0,0))):=ae (by rw[ew9];exact lD HN8.o)
       have H9L:Hid (Below wr.heap.size wr w9):=ae (by rw[ew9];exact lF (xO.o.trans (uM.o.mono (bV hsx))) (aF _))
       clear ew9
       have HG9:=ae (HG.o.abL H9L.o ZM)
       obtain⟨⟨n0,n1,n2⟩,u0,u1,u2⟩:=rD HN8.o
       go_upto_region 50 with (fail)
       rw[←HW9.o]
       clear n0 n1 n2 u0 u1 u2
       obtain⟨⟨n0,n1,n2⟩,_,_,_⟩:=rD H9B.o
       obtain⟨d0,d1,d2,d3,d4,d5,d6,d7,f0,f1,f2,f3,f4,f5,f6,f7⟩:=dO HG9.o.box
       go_wp2_with (at_builtin;refine wpList_append_lies _ rfl _ _ 24 rfl w7.heap.size 46 iG _ 3 48 Tryz.underlying24 iG1 iG2 iG3 iG4 rfl (by decide) v gs.length (jd gs) rfl (HG9.o.own.alloc _) ⟨w9.heap.size,0,none⟩ 1 1 [.string g0,.string g1,.string g2] rfl rfl ?cg1 ?cg2 (by decide) ?cg3 ?cg4 ?cg5 _ rfl ?_)
       case cg1=>exact bz (aH w9 _)
       case cg2=>intro u hu;simp only[bZ,bI,or_false] at hu;rcases hu with rfl|rfl|rfl <;> rfl
       case cg3=>exact oq YQ.o hjm
       case cg4=>exact lX YQ.o hjm (by decide)
       case cg5=>have:=H9L.o.size;simp;omega
       intro g' cap w10 Wl hgrow hat alX
       have abT:Hid (w9.grownBy w10 v.ownBlock):=ae ((World.grownBy_alloc _ _ _).trans hgrow)
       have aiJ:=ae Wl
       have HAT:Hid ((Value.slice (some ⟨g',0,none⟩) (gs.length+1) cap).ownBlock=v.ownBlock∨∃ n,(Value.slice (some ⟨g',0,none⟩) (gs.length+1) cap).ownBlock=some n∧w9.heap.size≤n):=ae (hat.imp (fun h=>h.symm) fun h=>⟨g',rfl,by rw[h];simp⟩)
       have aiK:=ae ((abT.o.block w2.heap.size (by have:=(aU.1 HG9.o.box).1;exact this) (fun e=>hv9.o e.symm)).trans HG9.o.box)
       clear Wl hgrow hat n0 n1 n2
       clear d0 d1 d2 d3 d4 d5 d6 d7 f0 f1 f2 f3 f4 f5 f6 f7
       obtain⟨d0,d1,d2,d3,d4,d5,d6,d7,f0,f1,f2,f3,f4,f5,f6,f7⟩:=dO aiK.o
       go_wp2_with fail
       go_roundw
       case measure=>exact abN hlt2
       case rel=>exact Pq (hgn:=HGG.o.2) HTM.o YQ.o (HG9.o.step (x:=⟨g0,g1,g2⟩) abT.o aiJ.o HAT.o ZM) (fun k h1 h2=>(aI w10 ⟨w2.heap.size,6,none⟩ _ k (by show k≠w2.heap.size;omega)).trans ((abT.o.block k (by have:=H9L.o.size;omega) fun e=>by have:=(HG.o.own.lt k e.symm).1;omega).trans ((H9L.o.block k (by omega)).trans (HHO.o k h1 h2)))) (HZ.o (by first|rfl|trivial)) HGG.o.1
      ·by_cases hy:y=0
       ·subst hy
        have hn2:¬j<m:=fun h=>hrun ⟨h,rfl⟩
        obtain rfl:j=m:=by omega
        have hz2:=HZ.o (by first|rfl|trivial)
        have hbase:=ae (hbr.o ZR.o (fun e he=>hz2.2 e (by rw[bJ (by rw[Ei.o];exact aF _)];exact he)))
        have hgs:Hid (gs=mid.map qE):=ae (by rw[hz2.1,bJ (by rw[Ei.o];exact aF _)])
        have Wi:decide ((j:Int)+2<(en:Int))=false:=decide_eq_false (QF Jo.o hn2).2
        clear hz2 hrun hn2
        go_wp2_with fail
        go_meet
        case rel =>
         have h7s:=YO.o
         have ao5:=YQ.o
         obtain⟨A9,c9,e9,IV,hLg⟩:=oH HG.o.own (S:=fun k=>w2.heap.size<k∧k<wr.heap.size) (fun k k1 k2=>⟨by omega,k2⟩)
         subst e9
         refine⟨_,_,_,_,_,rfl,rfl,rfl,HG.o.bel,by omega,fun h0=>⟨{ ru with la:=A4,lc:=c4,ga:=A9,gc:=c9 },?_,by rw[Nl.o,show dY 7=1 from rfl];omega,?_,?_,⟨.nil _,.inl rfl,?_,.inl rfl,?_,by rw[hbp.o];simp[P.ex],by rw[hbp.o];simp[P.cols],?_,by rw[hbp.o];simp[P.right],?_⟩,hbase.o⟩,fun h=>absurd rfl h⟩
         ·first|rfl|exact q10
         ·rw[HDR.o]
          exact xQ.o.sub en 1
         ·rw[HG.o.box,hbp.o,hgs.o]
          simp only[P.k,P.nm,P.ex,P.cols,P.left,P.right,P.ag,bM,DV.o]
          rfl
         ·rw[hbp.o]
          exact (P6.o.kept fun k hk=>(HHO.o k (by have:=hk.1;omega) (by have:=hk.2;omega)).trans (H7O.o k (by have:=hk.1;omega))).mono fun k hk=>⟨by have:=hk.1;omega,by have:=hk.2;omega⟩
         ·rw[hbp.o,←hgs.o];exact hLg
         ·rw[hbp.o];simp only[P.left,bM,DV.o];exact⟨by omega,hc4⟩
         ·rw[hbp.o,←hgs.o];show gs.length≤_;omega
       ·have hy1:(y==0)=false:=by simpa using hy
        have hsz:w2.heap.size<wr.heap.size:=by omega
        by_cases hlt2:j<m
        ·obtain⟨Wh,YP⟩:=V8 Jo.o hlt2
         go_wp2_with fail
         go_meet
         case rel=>exact⟨_,_,_,_,_,rfl,rfl,rfl,HG.o.bel,hsz,fun h0=>absurd h0 hy,fun _ hb=>by obtain⟨c,hc,hn⟩:=HZN.o hy;exact hn ((Ns.o hb).2 c hc)⟩
        ·have Wi:decide ((j:Int)+2<(en:Int))=false:=decide_eq_false (QF Jo.o hlt2).2
         clear hlt2
         go_wp2_with fail
         go_meet
         case rel=>exact⟨_,_,_,_,_,rfl,rfl,rfl,HG.o.bel,hsz,fun h0=>absurd h0 hy,fun _ hb=>by obtain⟨c,hc,hn⟩:=HZN.o hy;exact hn ((Ns.o hb).2 c hc)⟩
    ·have HNO:Hid (¬yg 7 l):=ae (fun hb=>by obtain⟨q,hq,h⟩:=hno;rw[(Ns.o hb).1 q hq] at h;cases h)
     clear hno
     go_upto_region 46 with (fail)
     refine wp_loop_rounds 1 ?_
     rw[rounds_succ]
     by_cases hm0:0<m
     ·obtain⟨Wh,YP⟩:=YL Jo.o hm0
      go_wp2_with fail
      go_meet
      case rel =>
       exact⟨_,_,_,_,_,rfl,rfl,rfl,kD.o.setCell (p:=⟨w2.heap.size,4,none⟩) (aF _) _,V6 (aK (aQ We hsk.symm) hs6),fun h0=>absurd h0 (by decide),fun _=>HNO.o⟩
     ·obtain rfl:en=2:=abM Jo.o hm0
      clear hm0
      go_wp2_with fail
      go_meet
      case rel =>
       exact⟨_,_,_,_,_,rfl,rfl,rfl,kD.o.setCell (p:=⟨w2.heap.size,4,none⟩) (aF _) _,V6 (aK (aQ We hsk.symm) hs6),fun h0=>absurd h0 (by decide),fun _=>HNO.o⟩
 case rest =>
  obtain⟨y,z,A9,n9,c9,rfl,rfl,rfl,hbc,hsc,hmid,ae5⟩:=hcut
  have Qg:Hid (y≠0→¬sH (.mk k s n l a)):=ae (fun h ha=>ae5 h (by have:=ha.base;rw[HKT.o] at this;exact this))
  have HBC:=ae hbc
  have HT9:=ae ((hbc.block (w.heap.size+1) (by omega)).trans HT2.o)
  clear hbc ae5
  by_cases hy:y=0
  ·obtain⟨a0,rfl,hkl,hK9,hbox,hparts,hbase⟩:=hmid hy
   obtain⟨p0,hp0⟩:∃ p0,p0=eU kd l:=⟨_,rfl⟩
   obtain⟨ks,hks⟩:∃ ks,ks=l.drop (l.length-dY kd):=⟨_,rfl⟩
   have VU:=ae (fun (ps:List QP)(j:Nat) h1 h2=>V5 (ps:=ps) HKT.o hbase (j:=j) h1 h2)
   have HKM:Hid (∀ x∈ks,x∈l):=ae (fun x hx=>by rw[hks] at hx;exact List.mem_of_mem_drop hx)
   have HNK:Hid ((∃ x∈ks,¬sH x)→¬sH (.mk k s n l a)):=ae (fun ⟨x,hx,hn⟩ ha=>hn (by have:=ha.sub;rw[HKT.o] at this;exact this x (by rw[hks] at hx;exact hx)))
   have ZK:Hid (ks.length=dY kd):=ae (by rw[hks,List.length_drop];omega)
   rw[←hp0] at hbox hparts VU
   rw[←hks] at hK9 VU
   have HPA:=ae hparts
   have HK9:=ae hK9
   have jW:=ae hbox
   obtain⟨i0,hi,hz0,hz1,hz2⟩:=info_parts GY
   have hkn2:dY kd≤2:=by unfold dY;repeat' split
                         all_goals omega
   obtain⟨kn,ekn⟩:∃ kn,kn=dY kd:=⟨_,rfl⟩
   rw[←ekn] at ZK hkn2 ⊢
   clear hmid hkl hK9 hbox hparts hbase hp0 hks hall ekn
   subst hy
   go_upto_region 53 with (fail)
   go_loopw [7,8,16] (fun s7 s8 i wr=>aeY w2.heap.size w2 wc a0 p0 ks s7 s8 i wr) (fun _ _ i _=>kn-(intOf i).toNat)
   case atStart=>exact⟨0,[],.slice none 0 0,0,z,aX _,rfl,rfl,rfl,rfl,jW.o,⟨rfl,.inl ⟨rfl,rfl⟩⟩,(fun p hp=>by cases hp),HBC.o,fun _ _ _=>rfl,aF _,fun _=>by simp,fun h=>absurd rfl h⟩
   case round =>
    obtain⟨j,ps,v,y,z,hj,rfl,rfl,rfl,hpl,hbox,hown,hxk,ho,hold,CZ,hz,hzn⟩:=hrel
    have HZN:=ae hzn
    clear hzn
    rw[ZK.o] at hj
    have HO:=ae ho
    have HOW:=ae hown
    have TY:=ae hbox
    have HXK:=ae hxk
    have HHO:=ae hold
    have HZ:=ae hz
    have lV:=ae hpl
    clear ho hown hbox hxk hold hz hpl
    by_cases hrun:j<kn∧y=0
    ·obtain⟨hlt2,rfl⟩:=hrun
     obtain⟨x,hx⟩:∃ x,ks[j]?=some x:=⟨_,aO (by rw[ZK.o];exact hlt2)⟩
     obtain⟨bx,ox,A1,c1,ex,hgx,x0,x1,x2,x3,x4,hcx,hKx⟩:=HK9.o.gy _ (aG _ _) j x hx
     subst ex
     obtain⟨wx,iK⟩:∃ wx,wx=wr.alloc (.cells #[.int .i64 0,.string ⟨#[]⟩,.slice none 0 0,.slice none 0 0,.slice none 0 0,.slice none 0 0,.slice none 0 0,.slice none 0 0] 27):=⟨_,rfl⟩
     have hbx:Below wr.heap.size wr wx:=by rw[iK];exact (aG _ _).alloc (aF _) _
     have hnx:wx.heap[wr.heap.size]?=some (.cells #[.int .i64 0,.string ⟨#[]⟩,.slice none 0 0,.slice none 0 0,.slice none 0 0,.slice none 0 0,.slice none 0 0,.slice none 0 0] 27 (0,0)):=by rw[iK];exact aH wr _
     have hsx:wr.heap.size<wx.heap.size:=by rw[iK];simp
     have hwr2:=HO.o.size
     have tH:Below w2.heap.size w2 wx:=HO.o.trans (hbx.mono hwr2)
     have hxm:=HKM.o x (aN hx)
     have lG:=ae (HM.o x hxm (Z5.o x hxm) A1 c1 wx hcx ((hKx.low tH).more (by omega)))
     have q0:=(tH.cell hgx).trans x0
     have q1:=(tH.cell hgx).trans x1
     have q2:=(tH.cell hgx).trans x2
     have q3:=(tH.cell hgx).trans x3
     have q4:=(tH.cell hgx).trans x4
     have HX:=ae hx
     have BH:=ae hnx
     have ni:=ae iK
     have xO:=ae hbx
     have hv9:Hid (v.ownBlock≠some w2.heap.size):=ae (sZ HOW.o hsc)
     have hjm:j≤600:=by omega
     have hjl:j<kn:=hlt2
     have Wh:(j:Int)<(kn:Int):=by omega
     clear x0 x1 x2 x3 x4 hcx hKx tH hxm hx hnx iK hbx
     have HCM:Hid (∀ {e:Ending} {w':World},vX wx x e w'→vX wx x e w'):=ae fun h=>h
     obtain⟨xk,xs,xn,xl,xa⟩:=x
     simp only[T.val,T.k,T.s,T.n,T.kids,T.at_] at q0 q1 q2 q3 q4 lG
     generalize xl.length=xm at *
     go_upto_region 56 with (fail)
     rw[←ni.o]
     go_wp2_with fail
     refine (lG.o).mono ?_
     rintro e w5 ⟨⟨aq,q,y',z',rfl,hX5,hst⟩,hb5⟩
     have uC:=ae hX5
     have HST:=ae hst
     have jA:=ae hb5
     have hs5:=hb5.size
     have Qh:=ae ((hb5.block wr.heap.size hsx).trans BH.o)
     clear hX5 hst hb5 q0 q1 q2 q3 q4
     have AU:Hid (kY w5 (fun k=>wx.heap.size≤k∧k<w5.heap.size) q aq):=uC
     obtain⟨qk,Yp,qex,Ez,EC,xX,qag,ED⟩:=q
     obtain⟨ea,ec,ca,cc,la,lc,ra,rc,ga,gc,ka,kc⟩:=aq
     simp only[P.val,P.k,P.nm,P.ex,P.cols,P.left,P.right,P.ag,P.kids]
     generalize hl1:qex.length=m1 at *
     generalize hl2:Ez.length=m2 at *
     generalize hl3:EC.length=m3 at *
     generalize hl4:xX.length=m4 at *
     generalize hl5:qag.length=m5 at *
     generalize Aw:ED.length=m6 at *
     have HQC:Hid (QP.cs ((.mk qk Yp qex Ez EC xX qag ED:P),(⟨ea,ec,ca,cc,la,lc,ra,rc,ga,gc,ka,kc⟩:PA))=[.int .i64 qk,.string Yp,.slice ea m1 ec,.slice ca m2 cc,.slice la m3 lc,.slice ra m4 rc,.slice ga m5 gc,.slice ka m6 kc]):=ae (by rw[←hl1,←hl2,←hl3,←hl4,←hl5,←Aw];rfl)
     clear hl1 hl2 hl3 hl4 hl5 Aw
     obtain⟨w6,O8⟩:∃ w6,w6=uY w5 wr.heap.size (.int .i64 qk) (.string Yp) (.slice ea m1 ec) (.slice ca m2 cc) (.slice la m3 lc) (.slice ra m4 rc) (.slice ga m5 gc) (.slice ka m6 kc):=⟨_,rfl⟩
     have HW6:Hid (w6=(((((((w5.setCell ⟨wr.heap.size,0,none⟩ (.int .i64 qk)).setCell ⟨wr.heap.size,1,none⟩ (.string Yp)).setCell ⟨wr.heap.size,2,none⟩ (.slice ea m1 ec)).setCell ⟨wr.heap.size,3,none⟩ (.slice ca m2 cc)).setCell ⟨wr.heap.size,4,none⟩ (.slice la m3 lc)).setCell ⟨wr.heap.size,5,none⟩ (.slice ra m4 rc)).setCell ⟨wr.heap.size,6,none⟩ (.slice ga m5 gc)).setCell ⟨wr.heap.size,7,none⟩ (.slice ka m6 kc)):=ae (by rw[O8];rfl)
     have H6B:Hid (w6.heap[wr.heap.size]?=some (.cells #[.int .i64 qk,.string Yp,.slice ea m1 ec,.slice ca m2 cc,.slice la m3 lc,.slice ra m4 rc,.slice ga m5 gc,.slice ka m6 kc] 27 (0,0))):=ae (by rw[O8];exact gV Qh.o)
     have H6S:Hid (w6.heap.size=w5.heap.size):=ae (by rw[O8];exact mV)
     have H6O:Hid (∀ k,k≠wr.heap.size→w6.heap[k]?=w5.heap[k]?):=ae (fun k hk=>by rw[O8];exact jH hk)
     have H6L:Hid (Below wr.heap.size w5 w6):=ae (by rw[O8];exact iq (aG _ _) (aF _))
     clear O8
     have H6P:Hid (w6.heap[w2.heap.size]?=some (.cells #[.int .i64 p0.k,.string p0.nm,.slice a0.ea p0.ex.length a0.ec,.slice a0.ca p0.cols.length a0.cc,.slice a0.la p0.left.length a0.lc,.slice a0.ra p0.right.length a0.rc,.slice a0.ga p0.ag.length a0.gc,v] 27 (0,0))):=ae ((H6O.o _ (by omega)).trans ((jA.o.block _ (by omega)).trans ((xO.o.block _ (by omega)).trans TY.o)))
     have qR:=ae (vC (own_below (own_below HOW.o xO.o) jA.o) (fun k e=>H6O.o k (by have:=(HOW.o.lt k e).2;omega)))
     obtain⟨n0,n1,n2,n3,n4,n5,n6,n7,u0,u1,u2,u3,u4,u5,u6,u7⟩:=dO Qh.o
     go_upto_region 57 with (fail)
     rw[←HW6.o]
     obtain⟨r0,r1,r2,r3,r4,r5,r6,r7,_,_,_,_,_,_,_,_⟩:=dO H6B.o
     obtain⟨d0,d1,d2,d3,d4,d5,d6,d7,f0,f1,f2,f3,f4,f5,f6,f7⟩:=dO H6P.o
     go_wp2_with (at_builtin;refine wpList_append_lies _ rfl _ _ 25 rfl wc.heap.size 27 i0 _ 8 168 Tryz.underlying25 hi hz0 hz1 hz2 rfl (by decide) v j (nI ps) rfl (qR.o.alloc _) ⟨w6.heap.size,0,none⟩ 1 1 [.int .i64 qk,.string Yp,.slice ea m1 ec,.slice ca m2 cc,.slice la m3 lc,.slice ra m4 rc,.slice ga m5 gc,.slice ka m6 kc] rfl rfl ?c1 ?c2 (by decide) ?c3 ?c4 ?c5 _ rfl ?_)
     case c1=>exact bz (aH w6 _)
     case c2=>intro u hu;simp only[bZ,bI,or_false] at hu;rcases hu with rfl|rfl|rfl|rfl|rfl|rfl|rfl|rfl <;> rfl
     case c3=>exact Qq hjm
     case c4=>exact KX hjm
     case c5=>have:=H6S.o;simp;omega
     intro g' cap w7 jo hgrow hat Gg
     have xu:Hid (w6.grownBy w7 v.ownBlock):=ae ((World.grownBy_alloc _ _ _).trans hgrow)
     have Gh:=ae jo
     have HAT:Hid (v.ownBlock=some g'∨w6.heap.size≤g'):=ae (hat.imp id fun h=>by rw[h];simp)
     have FP:=ae ((xu.o.block w2.heap.size (by have:=(aU.1 H6P.o).1;exact this) (fun e=>hv9.o e.symm)).trans H6P.o)
     clear jo hgrow hat d0 d1 d2 d3 d4 d5 d6 d7 f0 f1 f2 f3 f4 f5 f6 f7 r0 r1 r2 r3 r4 r5 r6 r7
     obtain⟨d0,d1,d2,d3,d4,d5,d6,d7,f0,f1,f2,f3,f4,f5,f6,f7⟩:=dO FP.o
     go_wp2_with fail
     go_roundw
     case measure=>exact Dc hlt2
     case rel=>exact Tt HX.o lV.o hsc HOW.o HXK.o HO.o HHO.o CZ (HZ.o (by first|rfl|trivial)) HST.o xO.o hsx jA.o AU.o (fun k h1 h2=>H6O.o k h2) (by rw[H6S.o];exact aF _) H6L.o xu.o (by rw[HQC.o];exact Gh.o) HAT.o FP.o
    ·by_cases hy:y=0
     ·subst hy
      have hn2:¬j<kn:=fun h=>hrun ⟨h,rfl⟩
      obtain rfl:j=kn:=by omega
      have hps:Hid (fU (.mk k s n l a) (0,0)=(p0.put (ps.map Prod.fst),0,0)):=ae (VU.o ps j (by rw[ZK.o];omega) (HZ.o (by first|rfl|trivial)))
      obtain⟨A9',c9',rfl,IV,yu⟩:=GX (S:=fun k=>wc.heap.size≤k∧k<wr.heap.size) (by rw[lV.o];exact HOW.o) (by rw[lV.o];omega) (fun g h1 h2=>⟨h1,h2⟩) (fun x hx=>(HXK.o x hx).mono fun k hk=>⟨hk.1,hk.2.1⟩)
      have GI:=ae yu
      have HRT:=ae ((HO.o.block (w.heap.size+1) (by omega)).trans HT2.o)
      have D6:=ae (HPA.o.kept fun k hk=>HHO.o k hk.1 hk.2)
      have hlm:(ps.map Prod.fst).length=j:=by rw[bM];exact lV.o
      have HLM:=ae hlm
      clear yu hn2 hrun
      obtain⟨d0,d1,d2,d3,d4,d5,d6,d7,f0,f1,f2,f3,f4,f5,f6,f7⟩:=dO TY.o
      obtain⟨t0,t1,t2,t3,t4,t5,t6,t7,g0,g1,g2,g3,g4,g5,g6,g7⟩:=dO HRT.o
      go_wp2_with fail
      refine aJ (jb rfl rfl rfl rfl (gV HRT.o)) rfl ?_
      refine⟨⟨{ a0 with ka:=A9',kc:=c9' },p0.put (ps.map Prod.fst),0,0,(by rw[Qp,HLM.o];rfl),?_,.inl ⟨rfl,hps.o⟩⟩,iq (JB.o.trans (HO.o.mono (by omega))) (aW _)⟩
      exact Pn D6.o GI.o (by omega) (by omega) (by omega) (by omega)
     ·have hy1:(y==0)=false:=by simpa using hy
      have hy2:(y != 0)=true:=by simpa using hy
      have HRT:=ae ((HO.o.block (w.heap.size+1) (by omega)).trans HT2.o)
      obtain⟨t0,t1,t2,t3,t4,t5,t6,t7,g0,g1,g2,g3,g4,g5,g6,g7⟩:=dO HRT.o
      by_cases hlt2:j<kn
      ·go_wp2_with fail
       refine aJ (jb rfl rfl rfl rfl (gV HRT.o)) rfl ?_
       exact sJ (HNK.o (HZN.o hy)) hy rfl (iq (JB.o.trans (HO.o.mono (by omega))) (aW _))
      ·go_wp2_with fail
       refine aJ (jb rfl rfl rfl rfl (gV HRT.o)) rfl ?_
       exact sJ (HNK.o (HZN.o hy)) hy rfl (iq (JB.o.trans (HO.o.mono (by omega))) (aW _))
  ·have hy1:(y==0)=false:=by simpa using hy
   have hy2:(y != 0)=true:=by simpa using hy
   obtain⟨t0,t1,t2,t3,t4,t5,t6,t7,g0,g1,g2,g3,g4,g5,g6,g7⟩:=dO HT9.o
   clear hmid
   by_cases hn0:n9=0
   ·subst hn0
    go_upto_region 53 with (fail)
    refine wp_loop_rounds 1 ?_
    rw[rounds_succ]
    go_wp2_with fail
    refine aJ (jb rfl rfl rfl rfl (gV HT9.o)) rfl ?_
    exact sJ (Qg.o hy) hy rfl (iq (JB.o.trans (HBC.o.mono (by omega))) (aW _))
   ·have hn1:0<n9:=by omega
    go_upto_region 53 with (fail)
    refine wp_loop_rounds 1 ?_
    rw[rounds_succ]
    go_wp2_with fail
    refine aJ (jb rfl rfl rfl rfl (gV HT9.o)) rfl ?_
    exact sJ (Qg.o hy) hy rfl (iq (JB.o.trans (HBC.o.mono (by omega))) (aW _))
theorem Wp:∀ t,Pm t:=T.ind fun k s n l a ih=>Tv k s n l a ih
end Go.Proofs.YtjhkihkiebnpaaaGreatDoor
