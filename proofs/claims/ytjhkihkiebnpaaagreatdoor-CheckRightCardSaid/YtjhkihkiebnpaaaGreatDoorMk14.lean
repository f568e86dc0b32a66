/-
  The reference's plans: From: a tree as a plan. (Printed by gen_rkm.py.)
-/
import Derived.Test.YtjhkihkiebnpaaaGreatDoorMk13
import Derived.Test.YtjhkihkiebnpaaaGreatDoorMk11
import Derived.RegionTactic
import Derived.Deep.CutBlock
import Derived.Deep.DeepCutAuto
import Derived.Deep.AppendLies
set_option linter.unusedVariables false
set_option linter.unusedSimpArgs false
set_option maxRecDepth 100000
set_option maxHeartbeats 40000000
namespace Go.Proofs.YtjhkihkiebnpaaaGreatDoor
open Go.RowKit
theorem wB {t:T} (h:t.Good):t.s.size≤600:=by
 obtain ⟨k,s,n,l,a⟩:=t
 obtain ⟨_,_,_,_,_,_,_,hs,_,_,_⟩:=h
 exact hs
theorem gX {t:T} (h:t.Good):t.kids.length≤600∧∀ e∈t.kids,T.Good e:=by
 obtain ⟨k,s,n,l,a⟩:=t
 obtain ⟨_,_,_,_,_,_,_,_,_,hl,hk⟩:=h
 exact ⟨hl,hk⟩
theorem Ny {w w2 wc wr:World} {p0:P} {a0:PA} {ks:List P} {A9:Option Addr} {c9:Nat} {x0 x1 x2 x3 x4 x5 x6 x7:Value} (hp:lq wr (fun k=>w2.heap.size<k∧k<wc.heap.size) p0 a0)(hX:yQ wr (fun k=>wc.heap.size≤k∧k<wr.heap.size) A9 ks)
 (h1:w.heap.size+1<w2.heap.size)(h2:w2.heap.size≤wr.heap.size)(h3:wc.heap.size≤wr.heap.size)(h4:w2.heap.size<wc.heap.size) :
 jS (rO wr (w.heap.size+1) x0 x1 x2 x3 x4 x5 x6 x7) (fun k=>w.heap.size≤k∧k<(rO wr (w.heap.size+1) x0 x1 x2 x3 x4 x5 x6 x7).heap.size) (p0.put ks) { a0 with ka:=A9,kc:=c9 }:=by
 have h:=(hp.kept fun k hk=>(gz (w:=wr) (p:=w.heap.size+1) (x0:=x0) (x1:=x1) (x2:=x2) (x3:=x3) (x4:=x4) (x5:=x5) (x6:=x6) (x7:=x7) (by have:=hk.1;omega))).mono (S':=fun k=>w.heap.size≤k∧k<(rO wr (w.heap.size+1) x0 x1 x2 x3 x4 x5 x6 x7).heap.size) (fun k hk=>⟨by have:=hk.1;omega,by rw [kC];have:=hk.2;omega⟩)
 exact ⟨⟨h.ex,h.cols,h.left,h.right,h.ag,h.l1,h.l2,h.l3,h.l4,h.l5⟩,(hX.kept fun k hk=>gz (by have:=hk.1;omega)).mono fun k hk=>⟨by have:=hk.1;omega,by rw [kC];exact hk.2⟩⟩
theorem sZ {l:List T} (h:∀ e∈l,nameB e.s=true):∀ s:eY,dY l s=s:=by
 induction l with
 | nil=>intro s;rfl
 | cons x l ih =>
   intro s
   show l.foldl (fun s t=>eF t s) (eF x s)=s
   have e:eF x s=s:=by unfold eF;rw [if_pos (h x List.mem_cons_self)]
   rw [e]
   exact ih (fun e he=>h e (List.mem_cons_of_mem _ he)) s
theorem UR {w:World} {n:Nat} {p:Addr} {u:Value} (h:n<w.heap.size):n<(w.setCell p u).heap.size:=by simp [World.setCell];exact h
theorem JX {l:List T} {ln c i:Nat} (hi:i≤2)(hl:ln=l.length)(h3:3≤l.length)(hc:l.length≤c)(h6:l.length≤600):∃ m en,l.length=m+i+1∧en=m+i∧m≤600∧1<ln∧(1:Int)<(ln:Int)∧(ln:Int)-1=(en:Int)∧wrap64 (en:Int)=(en:Int)∧en≤ln∧(en:Int)≤(ln:Int)∧(0:Int)≤(en:Int)∧¬c=en∧ln≤c∧ln-en=1 :=
 ⟨l.length-i-1,l.length-1,by omega,by omega,by omega,by omega,by omega,by omega,IntWalk.wrap64_in _ (by omega),by omega,by omega,by omega,by omega,by omega,by omega⟩
theorem UT {j m en:Nat} (h:en=m+1)(hj:j<m):j+1<en∧(j:Int)+1<(en:Int):=by omega
theorem OL {j m en:Nat} (h:en=m+1)(hj:¬j<m):¬(j+1<en)∧¬((j:Int)+1<(en:Int)):=by omega
theorem UU {j m en:Nat} (h:en=m+2)(hj:j<m):j+2<en∧(j:Int)+2<(en:Int):=by omega
theorem OM {j m en:Nat} (h:en=m+2)(hj:¬j<m):¬(j+2<en)∧¬((j:Int)+2<(en:Int)):=by omega
theorem Xz {m en:Nat} (h:en=m+2)(hj:0<m):2<en∧(2:Int)<(en:Int):=by omega
theorem XA {j m en ln:Nat} (h:en=m+1)(hj:j<m)(hl:en≤ln):j+1<ln∧(j:Int)+1<(ln:Int)∧(0:Int)≤(j:Int)+1:=by omega
theorem XB {j m en ln:Nat} (h:en=m+2)(hj:j<m)(hl:en≤ln):j+2<ln∧(j:Int)+2<(ln:Int)∧(0:Int)≤(j:Int)+2:=by omega
theorem aat {m en:Nat} (h:en=m+2)(hj:¬0<m):en=2:=by omega
theorem Nz {l:List T} (h:∀ e∈l,AU e.kids):∀ s:eY,l7 l s=s:=by
 induction l with
 | nil=>intro s;rfl
 | cons x l ih =>
   intro s
   show l.foldl (fun s t=>mg t.kids s) (mg x.kids s)=s
   rw [MO (h x List.mem_cons_self)]
   exact ih (fun e he=>h e (List.mem_cons_of_mem _ he)) s
def YK (pb:Nat)(w2 w7:World)(lv:Value)(mid:List T)(s7 s8 i:Value)(wr:World):Prop :=
 ∃ (j:Nat)(v:Value)(gs:List Ag)(y z:Int),j≤mid.length∧i=.int .i64 ((j+2:Nat):Int)∧s7=.int .i64 y∧s8=.int .i64 z∧gs.length=j∧RG pb w2 w7.heap.size lv v gs wr∧(∀ k,pb<k→k<w7.heap.size→wr.heap[k]?=w7.heap[k]?) ∧
   (y=0→gs=(mid.take j).map nG∧∀ c∈mid.take j,AU c.kids)∧(y≠0→∃ c∈mid,¬GU c.kids)
theorem ND {pb:Nat} {w2 w7 wr:World} {lv v:Value} {mid:List T} {j:Nat} {x:T} {gs:List Ag} {g:Ag} {y z:Int} (hx:mid[j]?=some x)(hgl:gs.length=j)(h:RG pb w2 w7.heap.size lv v (gs++[g]) wr)(hold:∀ k,pb<k→k<w7.heap.size→wr.heap[k]?=w7.heap[k]?)
 (hz:gs=(mid.take j).map nG∧∀ c∈mid.take j,AU c.kids)(hg:y=0→AU x.kids∧nG x=g)(hgn:y≠0→¬GU x.kids):YK pb w2 w7 lv mid (.int .i64 y) (.int .i64 z) (.int .i64 ((j:Int)+2+1)) wr:=by
 have hj:j<mid.length:=(List.getElem?_eq_some_iff.1 hx).1
 refine ⟨j+1,v,gs++[g],y,z,hj,by simp;omega,rfl,rfl,by simp [hgl],h,hold,fun h0=>?_,fun h=>⟨x,anq hx,hgn h⟩⟩
 obtain ⟨h1,h2⟩:=hg h0
 refine ⟨by rw [iD nG hx,hz.1,h2],fun c hc=>?_⟩
 rw [List.take_add_one,hx] at hc
 rcases List.mem_append.1 hc with hc | hc
 ·exact hz.2 c hc
 ·obtain rfl:c=x:=by simpa using hc
  exact h1
theorem aau {j m:Nat} (h:j<m):m+2-(intOf (Value.int .i64 ((j:Int)+2+1))).toNat<m+2-(intOf (Value.int .i64 ((j+2:Nat):Int))).toNat:=by
 simp [intOf];omega
theorem NF {l:List T} (h:∀ e∈l,nameB (lX e)=true∧(aI (e.kids.getD 1 aH)).2.1=0):∀ s:eY,nT l s=s:=by
 induction l with
 | nil=>intro s;rfl
 | cons x l ih =>
   intro s
   show l.foldl (fun s t=>rG t s) (rG x s)=s
   obtain ⟨h1,h2⟩:=h x List.mem_cons_self
   have e:rG x s=s:=by
    unfold rG kW eF
    unfold lX at h1
    rw [if_pos h2,if_pos h1]
   rw [e]
   exact ih (fun e he=>h e (List.mem_cons_of_mem _ he)) s
def YL (pb:Nat)(w2 wk:World)(mid:List T)(s7 s8 i:Value)(wr:World):Prop :=
 ∃ (j:Nat)(v2 v3:Value)(ps:List EP)(cs:List ByteArray)(y z:Int),j≤mid.length∧i=.int .i64 ((j+1:Nat):Int)∧s7=.int .i64 y∧s8=.int .i64 z∧ps.length=j∧cs.length=j∧RC pb w2 wk.heap.size v2 v3 ps cs wr ∧
   (y=0→ps.map Prod.fst=(mid.take j).map uI∧cs=(mid.take j).map lX∧∀ c∈mid.take j,nameB (lX c)=true∧(aI (c.kids.getD 1 aH)).2.1=0)
theorem NG {pb:Nat} {w2 wk wr:World} {v2 v3:Value} {mid:List T} {j:Nat} {x:T} {ps:List EP} {p:EP} {cs:List ByteArray} {s:ByteArray} {y z:Int} (hx:mid[j]?=some x)(hpl:ps.length=j)(hcl:cs.length=j)(h:RC pb w2 wk.heap.size v2 v3 (ps++[p]) (cs++[s]) wr)
 (hz:ps.map Prod.fst=(mid.take j).map uI∧cs=(mid.take j).map lX∧∀ c∈mid.take j,nameB (lX c)=true∧(aI (c.kids.getD 1 aH)).2.1=0)(hn:lX x=s)(hb:nameB s=true)(he:uI x=p.1∧(aI (x.kids.getD 1 aH)).2.1=y):YL pb w2 wk mid (.int .i64 y) (.int .i64 z) (.int .i64 ((j:Int)+1+1)) wr:=by
 have hj:j<mid.length:=(List.getElem?_eq_some_iff.1 hx).1
 refine ⟨j+1,v2,v3,ps++[p],cs++[s],y,z,hj,by simp,rfl,rfl,by simp [hpl],by simp [hcl],h,fun h0=>?_⟩
 refine ⟨by rw [iD uI hx,List.map_append,hz.1,he.1];rfl,by rw [iD lX hx,hz.2.1,hn],fun c hc=>?_⟩
 rw [List.take_add_one,hx] at hc
 rcases List.mem_append.1 hc with hc | hc
 ·exact hz.2.2 c hc
 ·obtain rfl:c=x:=by simpa using hc
  exact ⟨by rw [hn];exact hb,by rw [he.2];exact h0⟩
theorem aav {j m:Nat} (h:j<m):m+1-(intOf (Value.int .i64 ((j:Int)+1+1))).toNat<m+1-(intOf (Value.int .i64 ((j+1:Nat):Int))).toNat:=by
 simp [intOf];omega
theorem UW {w10 VF w12:World} {g pb k:Nat} {v u:Value} {o:Obj} (hg:w10.grownBy VF v.ownBlock)(h:w10.heap[g]?=some o)(hv:v.ownBlock≠some g)(hne:g≠pb)(e:w12=VF.setCell ⟨pb,k,none⟩ u):w12.heap[g]?=some o:=by
 rw [e]
 exact (ann VF ⟨pb,k,none⟩ _ g hne).trans ((hg.block g (Array.getElem?_eq_some_iff.1 h).1 (fun e=>hv e.symm)).trans h)
theorem QU {w9 w10 VF w12:World} {lo hi b pb k n:Nat} {v u:Value} {A:Option Addr} {l:List E} (h:gy w9 (fun k=>lo≤k∧k<hi) A l)(hhi:hi=w9.heap.size)(ho:∀ k,k≠b→w10.heap[k]?=w9.heap[k]?)(hs:w10.heap.size=w9.heap.size)(hg:w10.grownBy VF v.ownBlock)
 (hv:∀ k,v.ownBlock=some k→k<n)(hn:n≤lo)(hb:b<lo)(hp:pb<lo)(e:w12=VF.setCell ⟨pb,k,none⟩ u):gy w12 (fun k=>lo≤k∧k<hi) A l:=by
 subst hhi
 refine h.kept fun k hk=>?_
 obtain ⟨h1,h2⟩:=hk
 rw [e]
 exact (ann VF _ _ k (by show k≠pb;omega)).trans ((hg.block k (by omega) (fun e=>by have:=hv k e.symm;omega)).trans (ho k (by omega)))
theorem aaw {v u:Value} {w10:World} {lo hi:Nat} (h:u.ownBlock=v.ownBlock∨∃ n,u.ownBlock=some n∧w10.heap.size≤n)(hv:∀ k,v.ownBlock=some k→k<lo)(hs:hi≤w10.heap.size):∀ k,u.ownBlock=some k→k<lo∨hi≤k:=by
 intro k e
 rcases h with h | ⟨n,h,hn⟩
 ·exact .inl (hv k (by rw [←h];exact e))
 ·rw [h] at e
  have:=Option.some.inj e
  exact .inr (by omega)
theorem QV (k:Int)(s:ByteArray)(n:Int)(l:List T)(a:Int)(hM:∀ e∈l,Nw e):Nw (.mk k s n l a):=by
 intro hg A c w hc hA
 obtain ⟨_,_,_,_,_,hn1,hn2,hs6,hs4,xH,hgk⟩:=hg
 have hform:=fun w' hA'=>UO (.mk k s n l a) A c w' hc hA'
 have hhead:=fun w' hA'=>Jt (.mk k s n l a) A c w' hA'
 have hall:=xP (iR (.mk k s n l a)).toList l
 have KH:Hid (∀ kd,kd=fA (.mk k s n l a)→fA (.mk k s n l a)=kd):=anc fun kd h=>h.symm
 obtain ⟨kd,hkd⟩:∃ kd,kd=fA (.mk k s n l a):=⟨_,rfl⟩
 rw [show bY (iR (.mk k s n l a)).toList l=fA (.mk k s n l a) from rfl,←hkd] at hall
 rw [←hkd] at hform
 generalize iR (.mk k s n l a)=wd at *
 have HKT:=anc (KH.out kd hkd)
 clear KH hkd
 simp only [T.val,T.k,T.s,T.n,T.kids,T.at_] at hc hA hform hhead ⊢
 obtain ⟨ln,oL⟩:∃ ln,ln=l.length:=⟨_,rfl⟩
 obtain ⟨wa,nC⟩:∃ wa,wa=w.alloc (.cells #[.int .i64 k,.string s,.int .i64 n,.slice A ln c,.int .i64 a] 86):=⟨_,rfl⟩
 have hba:Below w.heap.size w wa:=by rw [nC];exact (anl _ _).alloc (ank _) _
 have hsa:wa.heap.size=w.heap.size+1:=by rw [nC];simp
 have hxa:wa.heap[w.heap.size]?=some (.cells #[.int .i64 k,.string s,.int .i64 n,.slice A ln c,.int .i64 a] 86 (0,0)):=by rw [nC];exact anm w _
 obtain ⟨w1,aK⟩:∃ w1,w1=wa.alloc (.cells #[.int .i64 0,.string ⟨#[]⟩,.slice none 0 0,.slice none 0 0,.slice none 0 0,.slice none 0 0,.slice none 0 0,.slice none 0 0] 27):=⟨_,rfl⟩
 have hb1:Below wa.heap.size wa w1:=by rw [aK];exact (anl _ _).alloc (ank _) _
 have hs1:w.heap.size+1<w1.heap.size:=by rw [aK];simp;omega
 have hr1:w1.heap[w.heap.size+1]?=some (.cells #[.int .i64 0,.string ⟨#[]⟩,.slice none 0 0,.slice none 0 0,.slice none 0 0,.slice none 0 0,.slice none 0 0,.slice none 0 0] 27 (0,0)):=by rw [aK,←hsa];exact anm wa _
 have hx1:w1.heap[w.heap.size]?=some (.cells #[.int .i64 k,.string s,.int .i64 n,.slice A ln c,.int .i64 a] 86 (0,0)):=(hb1.block _ (by omega)).trans hxa
 have hbw:Below w.heap.size w w1:=hba.trans (hb1.mono (by omega))
 have HFM:=anc (hform w1 ((hA.low hbw).more (by omega)))
 have KE:=anc (fun w' (hb:Below w.heap.size w w')=>hhead w' ((hA.low hb).more hb.size))
 rw [←oL] at HFM KE
 have HW1:=anc (show w1=(w.alloc (.cells #[.int .i64 k,.string s,.int .i64 n,.slice A ln c,.int .i64 a] 86)).alloc (.cells #[.int .i64 0,.string ⟨#[]⟩,.slice none 0 0,.slice none 0 0,.slice none 0 0,.slice none 0 0,.slice none 0 0,.slice none 0 0] 27) by rw [aK,nC])
 have Kz:=anc hA
 have gU:=anc hx1
 have HT1:=anc hr1
 have HB1:=anc hbw
 have jh:=anc oL
 have HM:=anc hM
 have YM:=anc hgk
 obtain ⟨⟨k0,k1,k2,k3,k4⟩,_,_,_,_,_⟩:=ay hx1
 rw [←oL]
 clear nC hba hsa hxa aK hb1 hr1 hx1 hbw hA hform hhead hM hgk oL wa
 go_enter Tryz.func40,Tryz.ntmps40
 go_upto_region 1 with (fail)
 rw [←HW1.out]
 by_cases hk0:kd=0
 ·subst hk0
  go_wp2_with fail
  refine (HFM.out).mono ?_
  rintro e w2 ⟨rfl,hb2⟩
  have HB2:=anc (HB1.out.trans (hb2.mono HB1.out.size))
  have dG:=anc ((hb2.block w.heap.size (by omega)).trans gU.out)
  have HT2:=anc ((hb2.block (w.heap.size+1) (by omega)).trans HT1.out)
  clear hb2 k0 k1 k2 k3 k4 hall HFM KE
  obtain ⟨⟨k0,k1,k2,k3,k4⟩,_,_,_,_,_⟩:=ay dG.out
  obtain ⟨t0,t1,t2,t3,t4,t5,t6,t7,g0,g1,g2,g3,g4,g5,g6,g7⟩:=az HT2.out
  go_upto_region 2 with (fail)
  go_region
  all_goals
   go_wp2_with fail
   refine ano (eX rfl rfl rfl rfl (zJ HT2.out)) rfl ?_
   exact pW (fun ha=>ha.kind HKT.out) (by decide) rfl ((dE HB2.out (Nat.le_succ _)).drew)
 have hkb:((kd:Int) != 0)=true:=by simpa using hk0
 rw [hkb] at HFM
 go_wp2_with fail
 refine (HFM.out).mono ?_
 rintro e w2 ⟨rfl,hb2⟩
 have HB2:=anc hb2
 have hs2:=hb2.size
 have dG:=anc ((hb2.block w.heap.size (by omega)).trans gU.out)
 have HT2:=anc ((hb2.block (w.heap.size+1) (by omega)).trans HT1.out)
 have Hw:=anc (HB1.out.trans (hb2.mono HB1.out.size))
 have vJ:=anc ((Kz.out.low Hw.out).more Hw.out.size)
 clear hb2 k0 k1 k2 k3 k4 hkb HFM
 obtain ⟨w3,lI⟩:∃ w3,w3=w2.alloc (.cells #[.int .i64 0,.string ⟨#[]⟩,.slice none 0 0,.slice none 0 0,.slice none 0 0,.slice none 0 0,.slice none 0 0,.slice none 0 0] 27):=⟨_,rfl⟩
 have hb3:Below w2.heap.size w2 w3:=by rw [lI];exact (anl _ _).alloc (ank _) _
 have hs3:w2.heap.size<w3.heap.size:=by rw [lI];simp
 have mP:=anc ((hb3.block w.heap.size (by omega)).trans dG.out)
 have Eg:Hid (w3.heap[w2.heap.size]?=some (.cells #[.int .i64 0,.string ⟨#[]⟩,.slice none 0 0,.slice none 0 0,.slice none 0 0,.slice none 0 0,.slice none 0 0,.slice none 0 0] 27 (0,0))):=anc (by rw [lI];exact anm w2 _)
 have HW3:=anc lI
 have Wy:=anc hb3
 have HCH:=anc (KE.out w3 (Hw.out.trans (hb3.mono Hw.out.size)))
 clear lI hb3 gU HT1 KE
 go_upto_region 4 with (fail)
 rw [←HW3.out]
 obtain ⟨⟨k0,k1,k2,k3,k4⟩,_,_,_,_,_⟩:=ay mP.out
 go_wp2_with fail
 refine (HCH.out).mono ?_
 rintro e w4 ⟨rfl,hb4⟩
 have yG:=anc ((hb4.block w2.heap.size hs3).trans Eg.out)
 have AY:=anc (Wy.out.trans (hb4.mono (Nat.le_of_lt hs3)))
 have UX:w2.heap.size<w4.heap.size:=anp hs3 hb4.size
 have qU:=anc ((hb4.block w.heap.size (by omega)).trans mP.out)
 clear hb4 k0 k1 k2 k3 k4 HCH Eg mP
 go_upto_block 0 with (fail)
 go_cut [7,8,9] (fun s7 s8 s9 wx=>agt w2.heap.size w2 kd l a s7 s8 s9 wx)
 case first =>
  rcases hall with rfl | ⟨rfl,hw,hl,ha⟩ | ⟨rfl,hw,hl⟩ | ⟨rfl,hw,hl,ha⟩ | ⟨rfl,hw,hl,ha,hb⟩ | ⟨rfl,hw,hl⟩ | ⟨rfl,hw,hl⟩ | ⟨rfl,hw,hl,ha,hb⟩
  ·exact absurd rfl hk0
  ·simp only [jU] at hw
   obtain ⟨x,hx⟩:∃ x,l[1]?=some x:=⟨_,anr (by omega)⟩
   obtain ⟨bx,ox,A1,c1,ex,hgx,x0,x1,x2,x3,x4,hcx,hKx⟩:=vJ.out.cu _ (anl _ _) 1 x hx
   subst ex
   rw [Nat.one_mul] at x0 x1 x2 x3 x4
   have hsx:x.s.size≤600:=wB (YM.out x (anq hx))
   have HN:=anc (fun w'=>lV x (anv hsx (by decide)) A1 c1 w')
   have hbp:Hid (aT 1 l=.mk 1 x.s [] [] [] [] [] []):=anc (by unfold aT;rw [if_pos rfl,getD_some hx])
   have KG:Hid (wu 1 l→nameB x.s=true):=anc (fun h=>by rcases h with ⟨_,h⟩ | ⟨h,_⟩;rw [getD_some hx] at h;exact h;exact absurd h (by decide))
   have hbr:Hid (nameB x.s=true→dM 1 l a (0,0)=(0,0)):=anc (fun h=>by unfold dM;rw [if_pos rfl,getD_some hx];unfold eF;rw [if_pos h])
   have hm1:1<ln:=by rw [jh.out];omega
   have hm2:(1:Int)<(ln:Int):=by omega
   have hcs:=sN (nameB x.s) x.s x.at_
   generalize (bif nameB x.s then x.s else ⟨#[]⟩)=r1 at *
   generalize (bif nameB x.s then (0:Int) else 20)=r2 at *
   generalize (bif nameB x.s then (0:Int) else x.at_)=r3 at *
   have hq4:w4.cell? ⟨bx,ox+5,none⟩=some (.int .i64 x.k)∧w4.cell? ⟨bx,ox+5+1,none⟩=some (.string x.s)∧w4.cell? ⟨bx,ox+5+2,none⟩=some (.int .i64 x.n)∧w4.cell? ⟨bx,ox+5+3,none⟩=some (.slice A1 x.kids.length c1)∧w4.cell? ⟨bx,ox+5+4,none⟩=some (.int .i64 x.at_):=⟨(AY.out.cell hgx).trans x0,(AY.out.cell hgx).trans x1,(AY.out.cell hgx).trans x2,(AY.out.cell hgx).trans x3,(AY.out.cell hgx).trans x4⟩
   obtain ⟨y0,y1,y2,y3,y4⟩:=hq4
   have hne:bx≠w2.heap.size:=by omega
   obtain ⟨xk,xs,xn,xl,xa⟩:=x
   simp only [T.val,T.k,T.s,T.n,T.kids,T.at_] at y0 y1 y2 y3 y4 HN hbp hbr hcs KG
   clear hx hcx hKx x0 x1 x2 x3 x4 hsx
   generalize xl.length=xm at *
   obtain ⟨d0,d1,d2,d3,d4,d5,d6,d7,f0,f1,f2,f3,f4,f5,f6,f7⟩:=az yG.out
   go_wp2_with fail
   refine (HN.out _).mono ?_
   rintro e w6 ⟨rfl,hb6⟩
   have KN:=anc ((hb6.block w2.heap.size (by simp [World.setCell];omega)).trans (fQ (k:=0) (u:=.int .i64 1) yG.out))
   have hs6:=hb6.size
   have iP:=anc (((AY.out.setCell (p:=⟨w2.heap.size,0,none⟩) (ank _) (.int .i64 1))).trans (hb6.mono (by simp [World.setCell];omega)))
   clear hb6
   clear d0 d1 d2 d3 d4 d5 d6 d7 f0 f1 f2 f3 f4 f5 f6 f7
   obtain ⟨d0,d1,d2,d3,d4,d5,d6,d7,f0,f1,f2,f3,f4,f5,f6,f7⟩:=az KN.out
   go_wp2_with fail
   go_meet
   case rel =>
    have h67:w2.heap.size<w6.heap.size:=by have:=(Array.getElem?_eq_some_iff.1 KN.out).1;exact this
    refine ⟨_,_,none,0,0,rfl,rfl,rfl,iP.out.setCell (p:=⟨w2.heap.size,1,none⟩) (ank _) _,by simp [World.setCell];exact h67,fun h0=>⟨oG,rfl,Nat.zero_le _,?_,?_,?_,?_⟩,fun hy hb=>?_⟩
    ·rw [show aJ 1=0 from rfl,Nat.sub_zero,List.drop_length];exact .nil _
    ·rcases hcs with ⟨hn,e1,e2,e3⟩ | ⟨_,e2⟩
     ·rw [hbp.out]
      subst e1
      exact fQ (k:=1) KN.out
     ·rw [e2] at h0;exact absurd h0 (by decide)
    ·rw [hbp.out];exact iV _ _ _ _
    ·rcases hcs with ⟨hn,e1,e2,e3⟩ | ⟨_,e2⟩
     ·exact hbr.out hn
     ·rw [e2] at h0;exact absurd h0 (by decide)
    ·rcases hcs with ⟨hn,e1,e2,e3⟩ | ⟨hn,_⟩
     ·exact hy e2
     ·rw [KG.out hb] at hn;cases hn
  ·simp only [iK] at hw
   obtain ⟨x,hx⟩:∃ x,l[1]?=some x:=⟨_,anr (by omega)⟩
   obtain ⟨bx,ox,A1,c1,ex,hgx,x0,x1,x2,x3,x4,hcx,hKx⟩:=vJ.out.cu _ (anl _ _) 1 x hx
   subst ex
   rw [Nat.one_mul] at x0 x1 x2 x3 x4
   have hfx:=FU x (YM.out x (anq hx))
   have hle:ln=3:=by rw [jh.out];exact hl
   subst hle
   have hcl:3≤c:=by rw [hl] at hc;exact hc
   have aax:¬c=2:=by omega
   have hsz:(w4.setCell ⟨w2.heap.size,0,none⟩ (.int .i64 2)).heap.size=w4.heap.size:=by simp [World.setCell]
   obtain ⟨wk,Ij⟩:∃ wk,wk=(w4.setCell ⟨w2.heap.size,0,none⟩ (.int .i64 2)).alloc (.cells #[.int .i64 0,.string ⟨#[]⟩,.int .i64 0,.slice none 0 0] 38):=⟨_,rfl⟩
   have hbk:Below w2.heap.size w2 wk:=by rw [Ij];exact (AY.out.setCell (p:=⟨w2.heap.size,0,none⟩) (ank _) _).alloc (by rw [hsz];omega) _
   have hsk:wk.heap.size=w4.heap.size+1:=by rw [Ij];simp [World.setCell]
   have hek:wk.heap[w4.heap.size]?=some (.cells #[.int .i64 0,.string ⟨#[]⟩,.int .i64 0,.slice none 0 0] 38 (0,0)):=by rw [Ij,←hsz];exact anm _ _
   have hpk:wk.heap[w2.heap.size]?=some (.cells #[.int .i64 2,.string ⟨#[]⟩,.slice none 0 0,.slice none 0 0,.slice none 0 0,.slice none 0 0,.slice none 0 0,.slice none 0 0] 27 (0,0)):=by rw [Ij];exact (ant _ _ _ (by rw [hsz];exact UX)).trans (fQ (k:=0) yG.out)
   have HN:=anc (Ar x hfx A1 c1 wk hcx ((hKx.low hbk).more (by omega)))
   obtain ⟨R,hR⟩:∃ R,R=aI x:=⟨_,rfl⟩
   rw [←hR] at HN
   have hbp:Hid (aT 2 l=.mk 2 ⟨#[]⟩ [R.1] [] [] [] [] []):=anc (by unfold aT;rw [if_neg (by decide),if_pos rfl,getD_some hx,hR])
   have hbr:Hid (R.2.1=0→dM 2 l a (0,0)=(0,0)):=anc (fun h=>by unfold dM;rw [if_neg (by decide),if_pos rfl,getD_some hx];unfold kW;rw [if_pos (by rw [←hR];exact h)])
   have q0:=(hbk.cell hgx).trans x0
   have q1:=(hbk.cell hgx).trans x1
   have q2:=(hbk.cell hgx).trans x2
   have q3:=(hbk.cell hgx).trans x3
   have q4:=(hbk.cell hgx).trans x4
   have HWK:=anc Ij
   have HBK:=anc hbk
   have HEK:=anc hek
   have DW:=anc hpk
   have HSK:=anc hsk
   have HDR:Hid (l.drop (l.length-aJ 2)=(l.drop 2).take 1):=anc (by rw [hl,List.take_of_length_le (by rw [List.length_drop];omega)];rfl)
   have KA:=anc hl
   obtain ⟨⟨ek,es,en,el⟩,y,z⟩:=R
   obtain ⟨xk,xs,xn,xl,xa⟩:=x
   simp only [T.val,E.val,E.k,E.s,E.n,E.kids,T.k,T.s,T.n,T.kids,T.at_] at q0 q1 q2 q3 q4 HN hbp hbr
   obtain ⟨em,hem⟩:∃ em,em=el.length:=⟨_,rfl⟩
   rw [←hem] at HN
   have wF:=anc hem
   clear hx hcx hKx x0 x1 x2 x3 x4 Ij hbk hek hpk hR hfx hem hsz hl hc
   generalize xl.length=xm at *
   obtain ⟨d0,d1,d2,d3,d4,d5,d6,d7,f0,f1,f2,f3,f4,f5,f6,f7⟩:=az yG.out
   go_upto_region 14 with (fail)
   rw [←HWK.out]
   go_wp2_with fail
   refine (HN.out).mono ?_
   rintro e w6 ⟨⟨A6,c6,rfl,CE⟩,hb6⟩
   have hs6:=hb6.size
   have CG:=anc CE
   have iP:=anc (HBK.out.trans (hb6.mono HBK.out.size))
   have KN:=anc ((hb6.block w2.heap.size (by have:=HSK.out;omega)).trans DW.out)
   have HE6:=anc ((hb6.block w4.heap.size (by have:=HSK.out;omega)).trans HEK.out)
   obtain ⟨w7,AZ⟩:∃ w7,w7=nO w6 w4.heap.size (.int .i64 ek) (.string es) (.int .i64 en) (.slice A6 em c6):=⟨_,rfl⟩
   have HW7:Hid (w7=(((w6.setCell ⟨w4.heap.size,0,none⟩ (.int .i64 ek)).setCell ⟨w4.heap.size,1,none⟩ (.string es)).setCell ⟨w4.heap.size,2,none⟩ (.int .i64 en)).setCell ⟨w4.heap.size,3,none⟩ (.slice A6 em c6)):=anc (by rw [AZ];rfl)
   have H7B:Hid (w7.heap[w4.heap.size]?=some (.cells #[.int .i64 ek,.string es,.int .i64 en,.slice A6 em c6] 38 (0,0))):=anc (by rw [AZ];exact aZ HE6.out)
   have XC:Hid (w7.heap.size=w6.heap.size):=anc (by rw [AZ];simp [nO,World.setCell])
   have H7O:Hid (∀ k,k≠w4.heap.size→w7.heap[k]?=w6.heap[k]?):=anc (fun k hk=>by rw [AZ];exact iT hk)
   have H7L:Hid (Below w2.heap.size w2 w7):=anc (by rw [AZ];exact bF iP.out (Nat.le_of_lt UX))
   have H7P:=anc ((H7O.out w2.heap.size (by omega)).trans KN.out)
   obtain ⟨⟨e0,e1,e2,e3⟩,u0,u1,u2,u3⟩:=bQ HE6.out
   clear CE hb6 AZ q0 q1 q2 q3 q4
   clear d0 d1 d2 d3 d4 d5 d6 d7 f0 f1 f2 f3 f4 f5 f6 f7
   go_upto_region 15 with (fail)
   rw [←HW7.out]
   clear e0 e1 e2 e3 u0 u1 u2 u3
   obtain ⟨⟨e0,e1,e2,e3⟩,_,_,_,_⟩:=bQ H7B.out
   obtain ⟨d0,d1,d2,d3,d4,d5,d6,d7,f0,f1,f2,f3,f4,f5,f6,f7⟩:=az ((ant w7 (Obj.cells #[.int .i64 ek,.string es,.int .i64 en,.slice A6 em c6] 38) w2.heap.size (by have:=XC.out;omega)).trans H7P.out)
   go_wp2_with fail
   go_meet
   case rel =>
    have h7s:=XC.out
    have hsk:=HSK.out
    have hne:w7.heap.size≠w2.heap.size:=by omega
    refine ⟨_,_,_,_,_,rfl,rfl,rfl,(H7L.out.alloc (by omega) _).setCell (p:=⟨w2.heap.size,2,none⟩) (ank _) _,by simp [World.setCell];omega,fun h0=>⟨{ oG with ea:=some ⟨w7.heap.size,0,none⟩,ec:=1 },rfl,by rw [KA.out];decide,?_,?_,⟨?_,.inl rfl,.inl rfl,.inl rfl,.inl rfl,by rw [hbp.out];simp [P.ex],by rw [hbp.out];simp [P.cols],by rw [hbp.out];simp [P.left],by rw [hbp.out];simp [P.right],by rw [hbp.out];simp [P.ag]⟩,hbr.out h0⟩,fun _=>oh (by decide) (by decide)⟩
    ·rw [HDR.out]
     exact vJ.out.sub 2 1
    ·rw [hbp.out]
     exact fQ (k:=2) ((ant w7 _ w2.heap.size (by omega)).trans H7P.out)
    ·rw [hbp.out]
     refine zA (e:=.mk ek es en el) (A:=A6) (c:=c6) (t:=38) ?_ ?_ ?_
     ·refine (ann _ ⟨w2.heap.size,2,none⟩ _ _ hne).trans ?_
      show (w7.alloc _).heap[_]?=some (Obj.cells #[.int .i64 ek,.string es,.int .i64 en,.slice A6 el.length c6] _ _)
      rw [←wF.out]
      exact anm w7 _
     ·refine ⟨by omega,?_⟩
      simp [World.setCell]
     ·refine (CG.out.kept fun k hk=>(ann _ ⟨w2.heap.size,2,none⟩ _ k (by show k≠w2.heap.size;have:=hk.1;omega)).trans ((ant w7 _ k (by have:=hk.2;omega)).trans (H7O.out k (by have:=hk.1;omega)))).mono fun k hk=>⟨by have:=hk.1;omega,?_⟩
      have:=hk.2
      simp [World.setCell]
      omega
  ·as_aux_lemma =>
    simp only [ig] at hw
    obtain ⟨x,hx⟩:∃ x,l[1]?=some x:=⟨_,anr (by omega)⟩
    obtain ⟨bx,ox,A1,c1,ex,hgx,_⟩:=vJ.out.cu _ (anl _ _) 1 x hx
    subst ex
    obtain ⟨m,en,hm,hen,KD,q1,q2,q3,q4,q5,q6,q7,q8,q9,q10⟩:=JX (i:=1) (by decide) jh.out hl hc xH
    have G7:=anc hen
    have CJ:=anc (Bc (i:=1) hm)
    have MC:=anc (fun j (hj:j<m)=>Bd (i:=1) hm hj)
    have Rt:Hid (∀ j,j<m→∃ t,l[1+j]?=some t):=anc (fun j (hj:j<m)=>Gq (i:=1) hm hj)
    have Bf:=anc (List.all_eq_true.1 ha)
    have hbp:Hid (aT 3 l=.mk 3 ⟨#[]⟩ ((bT l 1).map uI) ((bT l 1).map lX) [] [] [] []):=anc rfl
    have hbr:Hid ((∀ e∈bT l 1,nameB (lX e)=true∧(aI (e.kids.getD 1 aH)).2.1=0)→dM 3 l a (0,0)=(0,0)):=anc (fun h=>NF h _)
    have HDR:Hid (l.drop (l.length-aJ 3)=(l.drop en).take 1):=anc (by rw [hen,hm,List.take_of_length_le (by rw [List.length_drop];omega)];rfl)
    have KA:=anc hm
    have hbk:=anc (AY.out.setCell (p:=⟨w2.heap.size,0,none⟩) (ank _) (.int .i64 3))
    have DW:=anc (fQ (k:=0) (u:=.int .i64 3) yG.out)
    clear hx hl hc ha hm hen
    obtain ⟨d0,d1,d2,d3,d4,d5,d6,d7,f0,f1,f2,f3,f4,f5,f6,f7⟩:=az yG.out
    go_upto_region 20 with (fail)
    obtain ⟨wk,Ij⟩:∃ wk,wk=w4.setCell ⟨w2.heap.size,0,none⟩ (.int .i64 3):=⟨_,rfl⟩
    rw [←Ij] at hbk DW ⊢
    have hsk:wk.heap.size=w4.heap.size:=by rw [Ij];simp [World.setCell]
    have hpk:w2.heap.size<wk.heap.size:=anu UX hsk.symm
    clear d0 d1 d2 d3 d4 d5 d6 d7 f0 f1 f2 f3 f4 f5 f6 f7
    clear Ij hsk
    obtain ⟨iS,iS1,iS2,iS3,iS4⟩:=info_parts o9
    obtain ⟨iE,iE1,iE2,iE3,iE4⟩:=info_parts tZ
    generalize hmd:bT l 1=mid at *
    clear hmd
    go_loopw [7,8,11] (fun s7 s8 i wr=>YL w2.heap.size w2 wk mid s7 s8 i wr) (fun _ _ i _=>m+1-(intOf i).toNat)
    case atStart=>exact ⟨0,.slice none 0 0,.slice none 0 0,[],[],0,0,Nat.zero_le _,rfl,rfl,rfl,rfl,rfl,⟨DW.out,⟨rfl,.inl ⟨rfl,rfl⟩⟩,⟨rfl,.inl ⟨rfl,rfl⟩⟩,(fun p hp=>by cases hp),(fun k e=>by cases e),hbk.out,ank _⟩,fun _=>⟨by simp,by simp,fun c hc=>by simp at hc⟩⟩
    case round =>
     obtain ⟨j,v2,v3,ps,cs,y,z,hj,rfl,rfl,rfl,hpl,hcl,hC,hz⟩:=hrel
     rw [CJ.out] at hj
     have HC:=anc hC
     have HZ:=anc hz
     have jI:=anc hpl
     have jq:=anc hcl
     have Be:=hC.size
     have hpr:w2.heap.size<wr.heap.size:=anp hpk Be
     clear hC hz hpl hcl
     by_cases hrun:j<m∧y=0
     ·obtain ⟨hlt2,rfl⟩:=hrun
      obtain ⟨t,ht⟩:=Rt.out j hlt2
      have ZH:=anc ((MC.out j hlt2).trans ht)
      obtain ⟨p,q,hk,hk2⟩:=Ae (Bf.out t (anq ZH.out))
      obtain ⟨bt,ot,A5,c5,et,hgt,t0,t1,t2,t3,t4,hct,hKt⟩:=vJ.out.cu _ (anl _ _) (1+j) t ht
      obtain ⟨rfl,rfl⟩:bx=bt∧ox=ot:=by injection et with et;injection et with e1 e2;exact ⟨e1,e2⟩
      obtain ⟨hlt',hst'⟩:=gX (YM.out t (anq ht))
      rw [hk2] at t3
      rw [hk] at hKt hst'
      have HTK:=anc hk
      have hidx:1+j=j+1:=Nat.add_comm _ _
      rw [hidx] at t3
      have hgp:T.Good p:=hst' p (by simp)
      have hgq:T.Good q:=hst' q (by simp)
      obtain ⟨b2,o2,A6,c6,e6,hg2,p0,p1,p2,p3,p4,hcp,hKp⟩:=hKt.cu _ (anl _ _) 0 p rfl
      obtain ⟨b3,o3,A7,c7,e7,hg3,r0,r1,r2,r3,r4,hcq,hKq⟩:=hKt.cu _ (anl _ _) 1 q rfl
      obtain ⟨rfl,rfl⟩:b2=b3∧o2=o3:=by rw [e6] at e7;injection e7 with e7;injection e7 with e1 e2;exact ⟨e1,e2⟩
      subst e6
      rw [Nat.zero_mul,Nat.add_zero] at p0 p1 p2 p3 p4
      rw [Nat.one_mul] at r0 r1 r2 r3 r4
      have NH:=HC.out.bel
      have y3:=(NH.cell hgt).trans t3
      have s0:=(NH.cell hg2).trans p0
      have s1:=(NH.cell hg2).trans p1
      have s2:=(NH.cell hg2).trans p2
      have s3:=(NH.cell hg2).trans p3
      have s4:=(NH.cell hg2).trans p4
      have HN:=anc (lV p (anv (wB hgp) (by decide)) A6 c6 wr)
      have hcs:=sN (nameB p.s) p.s p.at_
      have HQ:=anc (And.intro t3 (And.intro r0 (And.intro r1 (And.intro r2 (And.intro r3 r4)))))
      have Hf:=anc (fun w' (hb:Below w2.heap.size w2 w')=>Ar q (FU q hgq) A7 c7 w' hcq ((hKq.low hb).more hb.size))
      obtain ⟨UY,XD⟩:=UT G7.out hlt2
      obtain ⟨UZ,agw,agx⟩:=XA G7.out hlt2 q5
      have hjm:j≤600:=anv hj KD
      obtain ⟨R,hR⟩:∃ R,R=aI q:=⟨_,rfl⟩
      rw [←hR] at Hf
      have HRR:=anc hR
      have rq:Hid (∀ r1,p.s=r1→lX t=r1):=anc (fun r1 h=>by unfold lX;rw [hk];exact h)
      have HQE:Hid (uI t=R.1∧(aI (t.kids.getD 1 aH)).2.1=R.2.1):=anc (by unfold uI;rw [hk,hR];exact ⟨rfl,rfl⟩)
      generalize (bif nameB p.s then p.s else ⟨#[]⟩)=u1 at *
      generalize (bif nameB p.s then (0:Int) else 20)=u2 at *
      generalize (bif nameB p.s then (0:Int) else p.at_)=u3 at *
      clear hk hk2 hKt hst' hct hlt' p0 p1 p2 p3 p4 r0 r1 r2 r3 r4 t0 t1 t2 t3 t4 hcp hKp hcq hKq NH e7 et hidx hR ht hgp
      obtain ⟨⟨ek,es,eN,el⟩,yy,zz⟩:=R
      obtain ⟨pk,pn,pN,pl,pa⟩:=p
      obtain ⟨qk,qn,qN,ql,qa⟩:=q
      simp only [T.val,E.val,E.k,E.s,E.n,E.kids,T.k,T.s,T.n,T.kids,T.at_] at s0 s1 s2 s3 s4 HN hcs HQ Hf rq HQE
      generalize pl.length=pm at *
      generalize ql.length=qm at *
      obtain ⟨em,hem⟩:∃ em,em=el.length:=⟨_,rfl⟩
      rw [←hem] at Hf
      have wF:=anc hem
      clear hem hgq
      go_upto_region 23 with (fail)
      rcases hcs with ⟨hn,rfl,rfl,rfl⟩ | ⟨hn,rfl⟩
      ·have HNB:=anc hn
       go_wp2_with fail
       refine (HN.out).mono ?_
       rintro e w8 ⟨rfl,hb8⟩
       have uC:=anc hb8
       have hs8:=hb8.size
       obtain ⟨wx,dN⟩:∃ wx,wx=w8.alloc (.cells #[.int .i64 0,.string ⟨#[]⟩,.int .i64 0,.slice none 0 0] 38):=⟨_,rfl⟩
       have hbx:Below w8.heap.size w8 wx:=by rw [dN];exact (anl _ _).alloc (ank _) _
       have hnx:wx.heap[w8.heap.size]?=some (.cells #[.int .i64 0,.string ⟨#[]⟩,.int .i64 0,.slice none 0 0] 38 (0,0)):=by rw [dN];exact anm w8 _
       have hsx:w8.heap.size<wx.heap.size:=by rw [dN];simp
       have aay:Below wr.heap.size wr wx:=hb8.trans (hbx.mono hs8)
       have JY:Below w2.heap.size w2 wx:=HC.out.bel.trans (aay.mono (Nat.le_of_lt hpr))
       have Aa:=anc hnx
       have jM:=anc dN
       have NI:=anc aay
       have HCR:=anc (Hf.out wx JY)
       obtain ⟨t3,r0,r1,r2,r3,r4⟩:=HQ.out
       have y3':=(JY.cell hgt).trans t3
       have o0:=(JY.cell hg2).trans r0
       have o1:=(JY.cell hg2).trans r1
       have o2':=(JY.cell hg2).trans r2
       have o3:=(JY.cell hg2).trans r3
       have o4:=(JY.cell hg2).trans r4
       clear hb8 y3 s0 s1 s2 s3 s4 hbx hnx dN aay JY t3 r0 r1 r2 r3 r4 hn HN Hf
       go_upto_region 26 with (fail)
       rw [←jM.out]
       go_wp2_with fail
       refine (HCR.out).mono ?_
       rintro e w9 ⟨⟨A9,c9,rfl,wG⟩,Ky⟩
       have EE:=anc wG
       have hs9:=Ky.size
       have HN9:=anc ((Ky.block w8.heap.size hsx).trans Aa.out)
       have agy:=anc (NI.out.trans (Ky.mono NI.out.size))
       obtain ⟨w10,QW⟩:∃ w10,w10=nO w9 w8.heap.size (.int .i64 ek) (.string es) (.int .i64 eN) (.slice A9 em c9):=⟨_,rfl⟩
       have agz:Hid (w10=(((w9.setCell ⟨w8.heap.size,0,none⟩ (.int .i64 ek)).setCell ⟨w8.heap.size,1,none⟩ (.string es)).setCell ⟨w8.heap.size,2,none⟩ (.int .i64 eN)).setCell ⟨w8.heap.size,3,none⟩ (.slice A9 em c9)):=anc (by rw [QW];rfl)
       have agA:Hid (w10.heap[w8.heap.size]?=some (.cells #[.int .i64 ek,.string es,.int .i64 eN,.slice A9 em c9] 38 (0,0))):=anc (by rw [QW];exact aZ HN9.out)
       have aaz:Hid (w10.heap.size=w9.heap.size):=anc (by rw [QW];simp [nO,World.setCell])
       have agB:Hid (∀ k,k≠w8.heap.size→w10.heap[k]?=w9.heap[k]?):=anc (fun k hk=>by rw [QW];exact iT hk)
       have adz:Hid (Below wr.heap.size wr w10):=anc (by rw [QW];exact bF agy.out hs8)
       have NJ:=anc (HC.out.aas adz.out hpk)
       have hv3:Hid (v3.ownBlock≠some w2.heap.size):=anc (qy NJ.out.pI hpk)
       have hv2:Hid (v2.ownBlock≠some w2.heap.size):=anc (qy NJ.out.qY hpk)
       obtain ⟨⟨n0,n1,n2,n3⟩,u0,u1',u2,u3⟩:=bQ HN9.out
       clear wG Ky QW y3' o0 o1 o2' o3 o4 HCR
       go_upto_region 27 with (fail)
       rw [←agz.out]
       clear n0 n1 n2 n3 u0 u1' u2 u3
       obtain ⟨d0,d1,d2,d3,d4,d5,d6,d7,f0,f1,f2,f3,f4,f5,f6,f7⟩:=az NJ.out.box
       go_wp2_with (at_builtin;refine wpList_append_lies _ rfl _ _ 23 rfl wk.heap.size 9 iS _ 1 16 Tryz.underlying23 iS1 iS2 iS3 iS4 rfl (by decide) v3 cs.length (strs cs) rfl (NJ.out.pI.alloc _) ⟨w10.heap.size,0,none⟩ 1 1 [.string u1] rfl rfl ?ch1 BR (by decide) ?ch3 ?ch4 ?ch5 _ rfl ?_)
       case ch1=>exact World.news_of_block (anm w10 _)
       case ch3=>exact lJ jq.out hjm
       case ch4=>exact jP jq.out hjm (by decide)
       case ch5=>exact anv NJ.out.size (aG w10 _ _).size
       intro g' cap VF hown hgrow hat ai5
       have U0:Hid (w10.grownBy VF v3.ownBlock):=anc ((World.grownBy_alloc _ _ _).trans hgrow)
       have agC:=anc hown
       have YN:Hid ((Value.slice (some ⟨g',0,none⟩) (cs.length+1) cap).ownBlock=v3.ownBlock∨∃ n,(Value.slice (some ⟨g',0,none⟩) (cs.length+1) cap).ownBlock=some n∧w10.heap.size≤n):=anc (hat.imp (fun h=>h.symm) fun h=>⟨g',rfl,by rw [h];first | exact Nat.le_succ _ | exact (aG w10 _ _).size⟩)
       have agD:w2.heap.size<w10.heap.size:=anp hpr adz.out.size
       have agE:=anc ((U0.out.block w2.heap.size agD (fun e=>hv3.out e.symm)).trans NJ.out.box)
       have NK:=anc (NJ.out.step3 (s:=u1) U0.out agC.out YN.out hpk)
       obtain ⟨w12,QX⟩:∃ w12,w12=VF.setCell ⟨w2.heap.size,3,none⟩ (.slice (some ⟨g',0,none⟩) (cs.length+1) cap):=⟨_,rfl⟩
       have VJ:=anc QX
       have H12:=anc (UW (g:=w8.heap.size) U0.out agA.out (fun e=>by have:=(HC.out.pI.lt _ e).2;omega) (by omega:w8.heap.size≠w2.heap.size) QX)
       have Zp:=anc (QU (lo:=wx.heap.size) (hi:=w9.heap.size) (b:=w8.heap.size) EE.out rfl agB.out aaz.out U0.out (fun k e=>(HC.out.pI.lt k e).2) NI.out.size hsx (anp hpr NI.out.size) QX)
       have agF:Hid (w9.heap.size≤w12.heap.size):=anc (by rw [QX,←aaz.out];exact anv U0.out.size (Nat.le_of_eq (by simp [World.setCell])))
       have HZ3:Hid (∀ k,(Value.slice (some ⟨g',0,none⟩) (cs.length+1) cap).ownBlock=some k→k<wx.heap.size∨w9.heap.size≤k):=anc (aaw YN.out (fun k e=>anp (HC.out.pI.lt k e).2 NI.out.size) (Nat.le_of_eq aaz.out.symm))
       rw [←QX] at NK
       clear hown hgrow hat QX
       clear d0 d1 d2 d3 d4 d5 d6 d7 f0 f1 f2 f3 f4 f5 f6 f7
       obtain ⟨d0,d1,d2,d3,d4,d5,d6,d7,f0,f1,f2,f3,f4,f5,f6,f7⟩:=az agE.out
       go_upto_region 28 with (fail)
       rw [←VJ.out]
       clear d0 d1 d2 d3 d4 d5 d6 d7 f0 f1 f2 f3 f4 f5 f6 f7
       obtain ⟨d0,d1,d2,d3,d4,d5,d6,d7,f0,f1,f2,f3,f4,f5,f6,f7⟩:=az NK.out.box
       obtain ⟨⟨n0,n1,n2,n3⟩,_,_,_,_⟩:=bQ H12.out
       go_wp2_with (at_builtin;refine wpList_append_lies _ rfl _ _ 22 rfl wk.heap.size 38 iE _ 4 56 Tryz.underlying22 iE1 iE2 iE3 iE4 rfl (by decide) v2 ps.length (iZ ps) rfl (NK.out.qY.alloc _) ⟨w12.heap.size,0,none⟩ 1 1 [.int .i64 ek,.string es,.int .i64 eN,.slice A9 em c9] rfl rfl ?ci1 ?ci2 (by decide) ?ci3 ?ci4 ?ci5 _ rfl ?_)
       case ci1=>exact World.news_of_block (anm w12 _)
       case ci2=>intro u hu;simp only [List.mem_cons,List.not_mem_nil,or_false] at hu;rcases hu with rfl | rfl | rfl | rfl <;> rfl
       case ci3=>exact lJ jI.out hjm
       case ci4=>exact jP jI.out hjm (by decide)
       case ci5=>exact anv NK.out.size (aG w12 _ _).size
       intro g2' cap2 w13 hown hgrow hat ai6
       have adA:Hid (w12.grownBy w13 v2.ownBlock):=anc ((World.grownBy_alloc _ _ _).trans hgrow)
       have agG:=anc hown
       have adB:Hid ((Value.slice (some ⟨g2',0,none⟩) (ps.length+1) cap2).ownBlock=v2.ownBlock∨∃ n,(Value.slice (some ⟨g2',0,none⟩) (ps.length+1) cap2).ownBlock=some n∧w12.heap.size≤n):=anc (hat.imp (fun h=>h.symm) fun h=>⟨g2',rfl,by rw [h];first | exact Nat.le_succ _ | exact (aG w12 _ _).size⟩)
       have agH:=anc ((adA.out.block w2.heap.size (by have:=(Array.getElem?_eq_some_iff.1 NK.out.box).1;exact this) (fun e=>hv2.out e.symm)).trans NK.out.box)
       clear hown hgrow hat n0 n1 n2 n3
       clear d0 d1 d2 d3 d4 d5 d6 d7 f0 f1 f2 f3 f4 f5 f6 f7
       obtain ⟨d0,d1,d2,d3,d4,d5,d6,d7,f0,f1,f2,f3,f4,f5,f6,f7⟩:=az agH.out
       have HEP:Hid (EP.cs ((.mk ek es eN el:E),A9,c9)=[.int .i64 ek,.string es,.int .i64 eN,.slice A9 em c9]):=anc (by rw [wF.out];rfl)
       go_wp2_with fail
       go_roundw
       case measure=>exact aav hlt2
       case rel=>exact NG ZH.out jI.out jq.out (NK.out.step2 (x:=((.mk ek es eN el:E),A9,c9)) adA.out (by rw [HEP.out];exact agG.out) adB.out Zp.out agF.out (anv Be NI.out.size) (fun k e=>anp (HC.out.qY.lt k e).2 NI.out.size) HZ3.out hpk) (HZ.out (by first | rfl | trivial)) (rq.out u1 rfl) HNB.out HQE.out
      ·go_wp2_with fail
       refine (HN.out).mono ?_
       rintro e w8 ⟨rfl,hb8⟩
       have uC:=anc (HC.out.bel.trans (hb8.mono (Nat.le_of_lt hpr)))
       have hs8:=hb8.size
       clear hb8 y3 s0 s1 s2 s3 s4 HN Hf
       go_wp2_with fail
       go_meet
       case rel=>exact ⟨_,_,_,_,_,rfl,rfl,rfl,uC.out,anp hpr hs8,fun h0=>absurd h0 (by decide),fun _=>oh (by decide) (by decide)⟩
     ·by_cases hy:y=0
      ·subst hy
       have hn2:¬j<m:=fun h=>hrun ⟨h,rfl⟩
       obtain rfl:j=m:=Nat.le_antisymm hj (Nat.le_of_not_lt hn2)
       have hz2:=HZ.out (by first | rfl | trivial)
       have htk:mid.take j=mid:=List.take_of_length_le (by rw [CJ.out];exact ank _)
       rw [htk] at hz2
       have hbase:=anc (hbr.out hz2.2.2)
       have hps:Hid (ps.map Prod.fst=mid.map uI):=anc hz2.1
       have hcs:Hid (cs=mid.map lX):=anc hz2.2.1
       have UZ:decide ((j:Int)+1<(en:Int))=false:=decide_eq_false (OL G7.out hn2).2
       clear hz2 hrun hn2 htk
       go_wp2_with fail
       go_meet
       case rel =>
        have alX:=jI.out
        have abZ:=jq.out
        obtain ⟨A2,c2,e2,hX⟩:=tX HC.out.qY (by omega) (S:=fun k=>w2.heap.size<k∧k<wr.heap.size) (fun k k1 k2=>⟨by omega,k2⟩) (fun p hp'=>(HC.out.kids p hp').mono fun k hk=>⟨by have:=hk.1;omega,hk.2.1⟩)
        obtain ⟨A3,c3,e3,hc3,hL⟩:=lQ HC.out.pI (S:=fun k=>w2.heap.size<k∧k<wr.heap.size) (fun k k1 k2=>⟨by omega,k2⟩)
        subst e2 e3
        refine ⟨_,_,_,_,_,rfl,rfl,rfl,HC.out.bel,hpr,fun h0=>⟨{ oG with ea:=A2,ec:=c2,ca:=A3,cc:=c3 },?_,by rw [KA.out,show aJ 3=1 from rfl];omega,?_,?_,⟨?_,?_,.inl rfl,.inl rfl,.inl rfl,?_,?_,by rw [hbp.out];simp [P.left],by rw [hbp.out];simp [P.right],by rw [hbp.out];simp [P.ag]⟩,hbase.out⟩,fun _=>oh (by decide) (by decide)⟩
        ·first | rfl | exact q10
        ·rw [HDR.out]
         exact vJ.out.sub en 1
        ·rw [HC.out.box,hbp.out]
         simp only [P.k,P.nm,P.ex,P.cols,P.left,P.right,P.ag,hps.out,hcs.out]
         rfl
        ·rw [hbp.out];rw [hps.out] at hX;exact hX
        ·rw [hbp.out,←hcs.out];exact hL
        ·rw [hbp.out,←hps.out];simp only [P.ex,List.length_map];omega
        ·rw [hbp.out,←hcs.out];show cs.length≤_;omega
      ·have hy1:(y==0)=false:=by simpa using hy
       by_cases hlt2:j<m
       ·obtain ⟨UY,XD⟩:=UT G7.out hlt2
        go_wp2_with fail
        go_meet
        case rel=>exact ⟨_,_,_,_,_,rfl,rfl,rfl,HC.out.bel,hpr,fun h0=>absurd h0 hy,fun _=>oh (by decide) (by decide)⟩
       ·have UZ:decide ((j:Int)+1<(en:Int))=false:=decide_eq_false (OL G7.out hlt2).2
        clear hlt2
        go_wp2_with fail
        go_meet
        case rel=>exact ⟨_,_,_,_,_,rfl,rfl,rfl,HC.out.bel,hpr,fun h0=>absurd h0 hy,fun _=>oh (by decide) (by decide)⟩
  ·as_aux_lemma =>
    simp only [nS] at hw
    obtain ⟨x,hx⟩:∃ x,l[1]?=some x:=⟨_,anr (by omega)⟩
    obtain ⟨u,hu⟩:∃ u,l[2]?=some u:=⟨_,anr (by omega)⟩
    obtain ⟨bx,ox,A1,c1,ex,hgx,x0,x1,x2,x3,x4,hcx,hKx⟩:=vJ.out.cu _ (anl _ _) 1 x hx
    obtain ⟨bu,ou,A2,c2,eu,hgu,u0,u1,u2,u3,u4,hcu,hKu⟩:=vJ.out.cu _ (anl _ _) 2 u hu
    obtain ⟨rfl,rfl⟩:bx=bu∧ox=ou:=by rw [ex] at eu;injection eu with eu;injection eu with e1 e2;exact ⟨e1,e2⟩
    subst ex
    clear eu
    rw [Nat.one_mul] at x0 x1 x2 x3 x4
    obtain ⟨hlx,hsx⟩:=gX (YM.out x (anq hx))
    obtain ⟨hlu,hsu⟩:=gX (YM.out u (anq hu))
    have hle:ln=5:=by rw [jh.out];exact hl
    subst hle
    have hcl:5≤c:=by rw [hl] at hc;exact hc
    have aax:¬c=3:=by omega
    have Si:=anc (fun w' (hb:Below w2.heap.size w2 w')=>qL x.kids hlx (fun e he=>wB (hsx e he)) A1 c1 w' ((hKx.low hb).more hb.size))
    have GK:=anc (fun w' (hb:Below w2.heap.size w2 w')=>qL u.kids hlu (fun e he=>wB (hsu e he)) A2 c2 w' ((hKu.low hb).more hb.size))
    have hbp:Hid (aT 4 l=.mk 4 ⟨#[]⟩ [] [] (x.kids.map T.s) (u.kids.map T.s) [] []):=anc (by unfold aT;rw [if_neg (by decide),if_neg (by decide),if_neg (by decide),if_pos rfl,getD_some hx,getD_some hu])
    have hbr:Hid ((∀ e∈x.kids,nameB e.s=true)→(∀ e∈u.kids,nameB e.s=true)→dM 4 l a (0,0)=(0,0)):=anc (fun h1 h2=>by unfold dM;rw [if_neg (by decide),if_neg (by decide),if_neg (by decide),if_pos rfl,getD_some hx,getD_some hu,sZ h1,sZ h2])
    have mP:=anc x3
    have HU3:=anc u3
    have HDR:Hid (l.drop (l.length-aJ 4)=(l.drop 3).take 2):=anc (by rw [hl,List.take_of_length_le (by rw [List.length_drop];omega)];rfl)
    have KA:=anc hl
    have hbk:=anc (AY.out.setCell (p:=⟨w2.heap.size,0,none⟩) (ank _) (.int .i64 4))
    have DW:=anc (fQ (k:=0) (u:=.int .i64 4) yG.out)
    have hq3:=(hbk.out.cell hgx).trans x3
    generalize hxl:x.kids.length=xm at *
    generalize hul:u.kids.length=um at *
    have BO:=anc hxl
    have HUL:=anc hul
    have hne:bx≠w2.heap.size:=by omega
    clear hx hu hcx hKx hcu hKu x0 x1 x2 x3 x4 u0 u1 u2 u3 u4 hsx hsu hl hc hxl hul ha hb
    obtain ⟨d0,d1,d2,d3,d4,d5,d6,d7,f0,f1,f2,f3,f4,f5,f6,f7⟩:=az yG.out
    go_upto_region 32 with (fail)
    obtain ⟨wk,Ij⟩:∃ wk,wk=w4.setCell ⟨w2.heap.size,0,none⟩ (.int .i64 4):=⟨_,rfl⟩
    rw [←Ij] at hbk DW hq3 ⊢
    have hsk:wk.heap.size=w4.heap.size:=by rw [Ij];simp [World.setCell]
    clear d0 d1 d2 d3 d4 d5 d6 d7 f0 f1 f2 f3 f4 f5 f6 f7
    clear Ij
    obtain ⟨d0,d1,d2,d3,d4,d5,d6,d7,f0,f1,f2,f3,f4,f5,f6,f7⟩:=az DW.out
    go_wp2_with fail
    refine (Si.out wk hbk.out).mono ?_
    rintro e w6 ⟨he,hb6⟩
    have iP:=anc (hbk.out.trans (hb6.mono hbk.out.size))
    have KN:=anc ((hb6.block w2.heap.size (by omega)).trans DW.out)
    have hs6:=hb6.size
    clear hb6 hq3
    clear d0 d1 d2 d3 d4 d5 d6 d7 f0 f1 f2 f3 f4 f5 f6 f7
    obtain ⟨d0,d1,d2,d3,d4,d5,d6,d7,f0,f1,f2,f3,f4,f5,f6,f7⟩:=az KN.out
    rcases he with ⟨A4,c4,rfl,hc4,hL4,hn4⟩ | ⟨a4,rfl,_⟩
    ·have NY:=anc hL4
     have YC:=anc hn4
     have hxe:Hid (x.kids.length=xm):=BO
     rw [BO.out] at hc4 ⊢
     clear hL4 hn4
     go_upto_region 33 with (fail)
     obtain ⟨w7,AZ⟩:∃ w7,w7=w6.setCell ⟨w2.heap.size,4,none⟩ (.slice A4 xm c4):=⟨_,rfl⟩
     rw [←AZ]
     have Ii:Hid (Below w2.heap.size w2 w7):=anc (by rw [AZ];exact iP.out.setCell (p:=⟨w2.heap.size,4,none⟩) (ank _) _)
     have HP7:Hid (w7.heap[w2.heap.size]?=some (.cells #[.int .i64 4,.string ⟨#[]⟩,.slice none 0 0,.slice none 0 0,.slice A4 xm c4,.slice none 0 0,.slice none 0 0,.slice none 0 0] 27 (0,0))):=anc (by rw [AZ];exact fQ (k:=4) KN.out)
     have H7O:Hid (∀ k,k≠w2.heap.size→w7.heap[k]?=w6.heap[k]?):=anc (fun k hk=>by rw [AZ];exact ann w6 ⟨w2.heap.size,4,none⟩ _ k hk)
     have XC:Hid (w7.heap.size=w6.heap.size):=anc (by rw [AZ];simp [World.setCell])
     have hq3:=(Ii.out.cell hgx).trans HU3.out
     clear d0 d1 d2 d3 d4 d5 d6 d7 f0 f1 f2 f3 f4 f5 f6 f7
     clear AZ
     go_wp2_with fail
     refine (GK.out w7 Ii.out).mono ?_
     rintro e w8 ⟨he,hb8⟩
     have hs8:=hb8.size
     have uC:=anc (Ii.out.trans (hb8.mono Ii.out.size))
     have HP8:=anc ((hb8.block w2.heap.size (by have:=XC.out;omega)).trans HP7.out)
     have H8O:Hid (∀ k,k<w7.heap.size→w8.heap[k]?=w7.heap[k]?):=anc (fun k hk=>hb8.block k hk)
     clear hb8 hq3
     obtain ⟨d0,d1,d2,d3,d4,d5,d6,d7,f0,f1,f2,f3,f4,f5,f6,f7⟩:=az HP8.out
     rcases he with ⟨A5,c5,rfl,hc5,hL5,WW⟩ | ⟨a5,rfl,_⟩
     ·have Ru:=anc hL5
      have Oe:=anc WW
      rw [HUL.out] at hc5 ⊢
      clear hL5 WW
      go_wp2_with fail
      go_meet
      case rel =>
       have h7s:=XC.out
       refine ⟨_,_,_,_,_,rfl,rfl,rfl,uC.out.setCell (p:=⟨w2.heap.size,5,none⟩) (ank _) _,by simp [World.setCell];omega,fun h0=>⟨{ oG with la:=A4,lc:=c4,ra:=A5,rc:=c5 },rfl,by rw [KA.out];decide,?_,?_,⟨.nil _,.inl rfl,?_,?_,.inl rfl,by rw [hbp.out];simp [P.ex],by rw [hbp.out];simp [P.cols],?_,?_,by rw [hbp.out];simp [P.ag]⟩,hbr.out YC.out Oe.out⟩,fun _=>oh (by decide) (by decide)⟩
       ·rw [HDR.out]
        exact vJ.out.sub 3 2
       ·rw [hbp.out]
        simp only [P.k,P.nm,P.ex,P.cols,P.left,P.right,P.ag,List.length_map,BO.out,HUL.out]
        exact fQ (k:=5) HP8.out
       ·rw [hbp.out]
        exact (NY.out.kept fun k hk=>(ann _ ⟨w2.heap.size,5,none⟩ _ k (by show k≠w2.heap.size;have:=hk.1;omega)).trans ((H8O.out k (by have:=hk.2;omega)).trans (H7O.out k (by have:=hk.1;omega)))).mono fun k hk=>⟨by have:=hk.1;omega,by have:=hk.2;simp [World.setCell];omega⟩
       ·rw [hbp.out]
        exact (Ru.out.kept fun k hk=>ann _ ⟨w2.heap.size,5,none⟩ _ k (by show k≠w2.heap.size;have:=hk.1;omega)).mono fun k hk=>⟨by have:=hk.1;omega,by have:=hk.2;simp [World.setCell];omega⟩
       ·rw [hbp.out];simp only [P.left,List.length_map,BO.out];exact ⟨by omega,hc4⟩
       ·rw [hbp.out];simp only [P.right,List.length_map,HUL.out];exact ⟨by omega,hc5⟩
     ·go_wp2_with fail
      go_meet
      case rel =>
       have h7s:=XC.out
       exact ⟨_,_,_,_,_,rfl,rfl,rfl,uC.out.setCell (p:=⟨w2.heap.size,5,none⟩) (ank _) _,by simp [World.setCell];omega,fun h0=>absurd h0 (by decide),fun _=>oh (by decide) (by decide)⟩
    ·go_wp2_with fail
     go_meet
     case rel =>
      exact ⟨_,_,_,_,_,rfl,rfl,rfl,iP.out.setCell (p:=⟨w2.heap.size,4,none⟩) (ank _) _,by simp [World.setCell];omega,fun h0=>absurd h0 (by decide),fun _=>oh (by decide) (by decide)⟩
  ·simp only [jJ] at hw
   have hm1:1≤ln:=by rw [jh.out];omega
   have hm2:(1:Int)≤(ln:Int):=by omega
   have hcl:ln≤c:=by rw [jh.out];exact hc
   have aax:¬c=1:=by rw [jh.out] at hcl;omega
   have hln:Hid (ln=l.length):=jh
   obtain ⟨x,hx⟩:∃ x,l[1]?=some x:=⟨_,anr (by omega)⟩
   obtain ⟨bx,ox,A1,c1,ex,hgx,_⟩:=vJ.out.cu _ (anl _ _) 1 x hx
   subst ex
   have hle:ln=3:=by rw [jh.out];exact hl
   subst hle
   clear hx
   obtain ⟨d0,d1,d2,d3,d4,d5,d6,d7,f0,f1,f2,f3,f4,f5,f6,f7⟩:=az yG.out
   go_wp2_with fail
   go_meet
   case rel =>
    refine ⟨_,_,_,_,_,rfl,rfl,rfl,AY.out.setCell (p:=⟨w2.heap.size,0,none⟩) (ank _) _,by simp [World.setCell];omega,fun h0=>⟨oG,rfl,by rw [←jh.out];decide,?_,fQ (k:=0) yG.out,iV _ _ _ _,rfl⟩,fun h=>absurd rfl h⟩
    rw [←jh.out]
    have:=vJ.out.sub 1 2
    rw [List.take_of_length_le (by rw [List.length_drop,←jh.out];decide)] at this
    exact this
  ·simp only [dW] at hw
   have hm1:1≤ln:=by rw [jh.out];omega
   have hm2:(1:Int)≤(ln:Int):=by omega
   have hcl:ln≤c:=by rw [jh.out];exact hc
   have aax:¬c=1:=by rw [jh.out] at hcl;omega
   have hln:Hid (ln=l.length):=jh
   obtain ⟨x,hx⟩:∃ x,l[1]?=some x:=⟨_,anr (by omega)⟩
   obtain ⟨bx,ox,A1,c1,ex,hgx,_⟩:=vJ.out.cu _ (anl _ _) 1 x hx
   subst ex
   have hle:ln=2:=by rw [jh.out];exact hl
   subst hle
   clear hx
   obtain ⟨d0,d1,d2,d3,d4,d5,d6,d7,f0,f1,f2,f3,f4,f5,f6,f7⟩:=az yG.out
   go_wp2_with fail
   go_meet
   case rel =>
    refine ⟨_,_,_,_,_,rfl,rfl,rfl,AY.out.setCell (p:=⟨w2.heap.size,0,none⟩) (ank _) _,by simp [World.setCell];omega,fun h0=>⟨oG,rfl,by rw [←jh.out];decide,?_,fQ (k:=0) yG.out,iV _ _ _ _,rfl⟩,fun h=>absurd rfl h⟩
    rw [←jh.out]
    have:=vJ.out.sub 1 1
    rw [List.take_of_length_le (by rw [List.length_drop,←jh.out];decide)] at this
    exact this
  ·as_aux_lemma =>
    simp only [kK] at hw
    obtain ⟨x,hx⟩:∃ x,l[1]?=some x:=⟨_,anr (by omega)⟩
    obtain ⟨bx,ox,A1,c1,ex,hgx,x0,x1,x2,x3,x4,hcx,hKx⟩:=vJ.out.cu _ (anl _ _) 1 x hx
    subst ex
    rw [Nat.one_mul] at x0 x1 x2 x3 x4
    obtain ⟨hlx,hsx⟩:=gX (YM.out x (anq hx))
    obtain ⟨m,en,hm,hen,KD,q1,q2,q3,q4,q5,q6,q7,q8,q9,q10⟩:=JX (i:=2) (by decide) jh.out hl hc xH
    have G7:=anc hen
    have CJ:=anc (Bc (i:=2) hm)
    have MC:=anc (fun j (hj:j<m)=>Bd (i:=2) hm hj)
    have Rt:Hid (∀ j,j<m→∃ t,l[2+j]?=some t):=anc (fun j (hj:j<m)=>Gq (i:=2) hm hj)
    have Bf:=anc (List.all_eq_true.1 hb)
    have KG:Hid (wu 7 l→(∀ e∈x.kids,nameB e.s=true)∧∀ e∈bT l 2,GU e.kids):=anc (fun h=>by rcases h with ⟨h,_⟩ | ⟨_,h⟩;exact absurd h (by decide);rw [getD_some hx] at h;exact h)
    have Si:=anc (fun w' (hb:Below w2.heap.size w2 w')=>qL x.kids hlx (fun e he=>wB (hsx e he)) A1 c1 w' ((hKx.low hb).more hb.size))
    have hbp:Hid (aT 7 l=.mk 7 ⟨#[]⟩ [] [] (x.kids.map T.s) [] ((bT l 2).map nG) []):=anc (by unfold aT;rw [if_neg (by decide),if_neg (by decide),if_neg (by decide),if_neg (by decide),if_pos rfl,getD_some hx];rfl)
    have hbr:Hid ((∀ e∈x.kids,nameB e.s=true)→(∀ e∈bT l 2,AU e.kids)→dM 7 l a (0,0)=(0,0)):=anc (fun h1 h2=>by unfold dM;rw [if_neg (by decide),if_neg (by decide),if_neg (by decide),if_neg (by decide),if_neg (by decide),if_neg (by decide),if_pos rfl,getD_some hx,sZ h1];exact Nz h2 _)
    have HDR:Hid (l.drop (l.length-aJ 7)=(l.drop en).take 1):=anc (by rw [hen,hm,List.take_of_length_le (by rw [List.length_drop];omega)];rfl)
    have KA:=anc hm
    have hbk:=anc (AY.out.setCell (p:=⟨w2.heap.size,0,none⟩) (ank _) (.int .i64 7))
    have DW:=anc (fQ (k:=0) (u:=.int .i64 7) yG.out)
    have hq3:=(hbk.out.cell hgx).trans x3
    generalize hxl:x.kids.length=xm at *
    have BO:=anc hxl
    have hne:bx≠w2.heap.size:=by omega
    clear hx hcx hKx x0 x1 x2 x3 x4 hsx hl hc hxl ha hb hm hen
    obtain ⟨d0,d1,d2,d3,d4,d5,d6,d7,f0,f1,f2,f3,f4,f5,f6,f7⟩:=az yG.out
    go_upto_region 44 with (fail)
    obtain ⟨wk,Ij⟩:∃ wk,wk=w4.setCell ⟨w2.heap.size,0,none⟩ (.int .i64 7):=⟨_,rfl⟩
    rw [←Ij] at hbk DW hq3 ⊢
    have hsk:wk.heap.size=w4.heap.size:=by rw [Ij];simp [World.setCell]
    clear d0 d1 d2 d3 d4 d5 d6 d7 f0 f1 f2 f3 f4 f5 f6 f7
    clear Ij
    obtain ⟨d0,d1,d2,d3,d4,d5,d6,d7,f0,f1,f2,f3,f4,f5,f6,f7⟩:=az DW.out
    go_wp2_with fail
    refine (Si.out wk hbk.out).mono ?_
    rintro e w6 ⟨he,hb6⟩
    have iP:=anc (hbk.out.trans (hb6.mono hbk.out.size))
    have KN:=anc ((hb6.block w2.heap.size (by omega)).trans DW.out)
    have hs6:=hb6.size
    clear hb6 hq3
    clear d0 d1 d2 d3 d4 d5 d6 d7 f0 f1 f2 f3 f4 f5 f6 f7
    obtain ⟨d0,d1,d2,d3,d4,d5,d6,d7,f0,f1,f2,f3,f4,f5,f6,f7⟩:=az KN.out
    rcases he with ⟨A4,c4,rfl,hc4,hL4,hn4⟩ | ⟨a4,rfl,hno⟩
    ·have NY:=anc hL4
     have YC:=anc hn4
     rw [BO.out] at hc4 ⊢
     clear hL4 hn4
     obtain ⟨iG,iG1,iG2,iG3,iG4⟩:=info_parts IE
     go_upto_region 46 with (fail)
     obtain ⟨w7,AZ⟩:∃ w7,w7=w6.setCell ⟨w2.heap.size,4,none⟩ (.slice A4 xm c4):=⟨_,rfl⟩
     rw [←AZ]
     have Ii:Hid (Below w2.heap.size w2 w7):=anc (by rw [AZ];exact iP.out.setCell (p:=⟨w2.heap.size,4,none⟩) (ank _) _)
     have HP7:Hid (w7.heap[w2.heap.size]?=some (.cells #[.int .i64 7,.string ⟨#[]⟩,.slice none 0 0,.slice none 0 0,.slice A4 xm c4,.slice none 0 0,.slice none 0 0,.slice none 0 0] 27 (0,0))):=anc (by rw [AZ];exact fQ (k:=4) KN.out)
     have H7O:Hid (∀ k,k≠w2.heap.size→w7.heap[k]?=w6.heap[k]?):=anc (fun k hk=>by rw [AZ];exact ann w6 ⟨w2.heap.size,4,none⟩ _ k hk)
     have XC:Hid (w7.heap.size=w6.heap.size):=anc (by rw [AZ];simp [World.setCell])
     have Yx:w2.heap.size<w7.heap.size:=by have:=XC.out;omega
     clear d0 d1 d2 d3 d4 d5 d6 d7 f0 f1 f2 f3 f4 f5 f6 f7
     clear AZ
     generalize hmd:bT l 2=mid at *
     clear hmd
     go_loopw [7,8,14] (fun s7 s8 i wr=>YK w2.heap.size w2 w7 (.slice A4 xm c4) mid s7 s8 i wr) (fun _ _ i _=>m+2-(intOf i).toNat)
     case atStart=>exact ⟨0,.slice none 0 0,[],0,0,Nat.zero_le _,rfl,rfl,rfl,rfl,⟨HP7.out,⟨rfl,.inl ⟨rfl,rfl⟩⟩,Ii.out,ank _⟩,fun _ _ _=>rfl,fun _=>⟨by simp,fun c hc=>by simp at hc⟩,fun h=>absurd rfl h⟩
     case round =>
      obtain ⟨j,v,gs,y,z,hj,rfl,rfl,rfl,hgl,hG,hold,hz,hzn⟩:=hrel
      have HZN:=anc hzn
      clear hzn
      rw [CJ.out] at hj
      have HG:=anc hG
      have HHO:=anc hold
      have HZ:=anc hz
      have XE:=anc hgl
      have Be:=hG.size
      clear hG hold hz hgl
      by_cases hrun:j<m∧y=0
      ·obtain ⟨hlt2,rfl⟩:=hrun
       obtain ⟨t,ht⟩:=Rt.out j hlt2
       have ZH:=anc ((MC.out j hlt2).trans ht)
       obtain ⟨bt,ot,A5,c5,et,hgt,t0,t1,t2,t3,t4,hct,hKt⟩:=vJ.out.cu _ (anl _ _) (2+j) t ht
       obtain ⟨rfl,rfl⟩:bx=bt∧ox=ot:=by injection et with et;injection et with e1 e2;exact ⟨e1,e2⟩
       clear et
       have hat:=(Gz (Bf.out t (anq ZH.out))).2
       obtain ⟨hlt',hst'⟩:=gX (YM.out t (anq ht))
       obtain ⟨wx,dN⟩:∃ wx,wx=wr.alloc (.cells #[.string ⟨#[]⟩,.string ⟨#[]⟩,.string ⟨#[]⟩] 46):=⟨_,rfl⟩
       have hbx:Below wr.heap.size wr wx:=by rw [dN];exact (anl _ _).alloc (ank _) _
       have hnx:wx.heap[wr.heap.size]?=some (.cells #[.string ⟨#[]⟩,.string ⟨#[]⟩,.string ⟨#[]⟩] 46 (0,0)):=by rw [dN];exact anm wr _
       have hsx:wr.heap.size<wx.heap.size:=by rw [dN];simp
       have hwr2:=HG.out.bel.size
       have qE:Below w2.heap.size w2 wx:=HG.out.bel.trans (hbx.mono hwr2)
       have jq:=anc (MQ t.kids hat (fun e he=>wB (hst' e he)) A5 c5 wx ((hKt.low qE).more (by omega)))
       have q3:=(qE.cell hgt).trans t3
       have Aa:=anc hnx
       have jM:=anc dN
       have vH:=anc hbx
       have hv9:Hid (v.ownBlock≠some w2.heap.size):=anc (qy HG.out.own Yx)
       have hjm:j≤600:=by omega
       obtain ⟨UY,XD⟩:=UU G7.out hlt2
       obtain ⟨UZ,agw,agx⟩:=XB G7.out hlt2 q5
       have hidx:2+j=j+2:=Nat.add_comm _ _
       rw [hidx] at q3
       clear t0 t1 t2 t3 t4 hct hKt qE ht hnx dN hbx hat hlt' hst' hidx
       have HAG:Hid (kU t.kids=nG t):=anc rfl
       generalize htl:t.kids.length=tm at *
       have YS:=anc htl
       clear htl
       go_upto_region 49 with (fail)
       rw [←jM.out]
       go_wp2_with fail
       refine (jq.out).mono ?_
       rintro e w8 ⟨he,hb8⟩
       obtain ⟨g0,g1,g2,yy,zz,hee,hgg⟩:∃ (g0 g1 g2:ByteArray)(yy zz:Int),e=.returned (.tuple #[.agg #[.string g0,.string g1,.string g2],.int .i64 yy,.int .i64 zz])∧(yy=0→AU t.kids∧nG t=⟨g0,g1,g2⟩)∧(yy≠0→¬GU t.kids):=by
        rcases he with ⟨hr,he⟩ | ⟨g0,g1,g2,yy,zz,hy,he,hac⟩
        ·exact ⟨_,_,_,_,_,he,fun _=>⟨hr,rfl⟩,fun h=>absurd rfl h⟩
        ·exact ⟨_,_,_,_,_,he,fun h=>absurd h hy,fun _=>hac⟩
       subst hee
       have HGG:=anc hgg
       have uC:=anc hb8
       have hs8:=hb8.size
       have HN8:=anc ((hb8.block wr.heap.size hsx).trans Aa.out)
       clear he hb8 hgg q3
       obtain ⟨w9,ew9⟩:∃ w9,w9=Ub w8 wr.heap.size (.string g0) (.string g1) (.string g2):=⟨_,rfl⟩
       have HW9:Hid (w9=((w8.setCell ⟨wr.heap.size,0,none⟩ (.string g0)).setCell ⟨wr.heap.size,1,none⟩ (.string g1)).setCell ⟨wr.heap.size,2,none⟩ (.string g2)):=anc (by rw [ew9];rfl)
       have H9B:Hid (w9.heap[wr.heap.size]?=some (.cells #[.string g0,.string g1,.string g2] 46 (0,0))):=anc (by rw [ew9];exact jm HN8.out)
       have H9L:Hid (Below wr.heap.size wr w9):=anc (by rw [ew9];exact jo (vH.out.trans (uC.out.mono (Nat.le_of_lt hsx))) (ank _))
       clear ew9
       have HG9:=anc (HG.out.aas H9L.out Yx)
       obtain ⟨⟨n0,n1,n2⟩,u0,u1,u2⟩:=oJ HN8.out
       go_upto_region 50 with (fail)
       rw [←HW9.out]
       clear n0 n1 n2 u0 u1 u2
       obtain ⟨⟨n0,n1,n2⟩,_,_,_⟩:=oJ H9B.out
       obtain ⟨d0,d1,d2,d3,d4,d5,d6,d7,f0,f1,f2,f3,f4,f5,f6,f7⟩:=az HG9.out.box
       go_wp2_with (at_builtin;refine wpList_append_lies _ rfl _ _ 24 rfl w7.heap.size 46 iG _ 3 48 Tryz.underlying24 iG1 iG2 iG3 iG4 rfl (by decide) v gs.length (fB gs) rfl (HG9.out.own.alloc _) ⟨w9.heap.size,0,none⟩ 1 1 [.string g0,.string g1,.string g2] rfl rfl ?cg1 ?cg2 (by decide) ?cg3 ?cg4 ?cg5 _ rfl ?_)
       case cg1=>exact World.news_of_block (anm w9 _)
       case cg2=>intro u hu;simp only [List.mem_cons,List.not_mem_nil,or_false] at hu;rcases hu with rfl | rfl | rfl <;> rfl
       case cg3=>exact lJ XE.out hjm
       case cg4=>exact jP XE.out hjm (by decide)
       case cg5=>have:=H9L.out.size;simp;omega
       intro g' cap w10 U1 hgrow hat ajb
       have aaA:Hid (w9.grownBy w10 v.ownBlock):=anc ((World.grownBy_alloc _ _ _).trans hgrow)
       have agK:=anc U1
       have HAT:Hid ((Value.slice (some ⟨g',0,none⟩) (gs.length+1) cap).ownBlock=v.ownBlock∨∃ n,(Value.slice (some ⟨g',0,none⟩) (gs.length+1) cap).ownBlock=some n∧w9.heap.size≤n):=anc (hat.imp (fun h=>h.symm) fun h=>⟨g',rfl,by rw [h];simp⟩)
       have agL:=anc ((aaA.out.block w2.heap.size (by have:=(Array.getElem?_eq_some_iff.1 HG9.out.box).1;exact this) (fun e=>hv9.out e.symm)).trans HG9.out.box)
       clear U1 hgrow hat n0 n1 n2
       clear d0 d1 d2 d3 d4 d5 d6 d7 f0 f1 f2 f3 f4 f5 f6 f7
       obtain ⟨d0,d1,d2,d3,d4,d5,d6,d7,f0,f1,f2,f3,f4,f5,f6,f7⟩:=az agL.out
       go_wp2_with fail
       go_roundw
       case measure=>exact aau hlt2
       case rel=>exact ND (hgn:=HGG.out.2) ZH.out XE.out (HG9.out.step (x:=⟨g0,g1,g2⟩) aaA.out agK.out HAT.out Yx) (fun k h1 h2=>(ann w10 ⟨w2.heap.size,6,none⟩ _ k (by show k≠w2.heap.size;omega)).trans ((aaA.out.block k (by have:=H9L.out.size;omega) fun e=>by have:=(HG.out.own.lt k e.symm).1;omega).trans ((H9L.out.block k (by omega)).trans (HHO.out k h1 h2)))) (HZ.out (by first | rfl | trivial)) HGG.out.1
      ·by_cases hy:y=0
       ·subst hy
        have hn2:¬j<m:=fun h=>hrun ⟨h,rfl⟩
        obtain rfl:j=m:=by omega
        have hz2:=HZ.out (by first | rfl | trivial)
        have hbase:=anc (hbr.out YC.out (fun e he=>hz2.2 e (by rw [List.take_of_length_le (by rw [CJ.out];exact ank _)];exact he)))
        have hgs:Hid (gs=mid.map nG):=anc (by rw [hz2.1,List.take_of_length_le (by rw [CJ.out];exact ank _)])
        have UZ:decide ((j:Int)+2<(en:Int))=false:=decide_eq_false (OM G7.out hn2).2
        clear hz2 hrun hn2
        go_wp2_with fail
        go_meet
        case rel =>
         have h7s:=XC.out
         have al9:=XE.out
         obtain ⟨A9,c9,e9,Gp,hLg⟩:=lQ HG.out.own (S:=fun k=>w2.heap.size<k∧k<wr.heap.size) (fun k k1 k2=>⟨by omega,k2⟩)
         subst e9
         refine ⟨_,_,_,_,_,rfl,rfl,rfl,HG.out.bel,by omega,fun h0=>⟨{ oG with la:=A4,lc:=c4,ga:=A9,gc:=c9 },?_,by rw [KA.out,show aJ 7=1 from rfl];omega,?_,?_,⟨.nil _,.inl rfl,?_,.inl rfl,?_,by rw [hbp.out];simp [P.ex],by rw [hbp.out];simp [P.cols],?_,by rw [hbp.out];simp [P.right],?_⟩,hbase.out⟩,fun h=>absurd rfl h⟩
         ·first | rfl | exact q10
         ·rw [HDR.out]
          exact vJ.out.sub en 1
         ·rw [HG.out.box,hbp.out,hgs.out]
          simp only [P.k,P.nm,P.ex,P.cols,P.left,P.right,P.ag,List.length_map,BO.out]
          rfl
         ·rw [hbp.out]
          exact (NY.out.kept fun k hk=>(HHO.out k (by have:=hk.1;omega) (by have:=hk.2;omega)).trans (H7O.out k (by have:=hk.1;omega))).mono fun k hk=>⟨by have:=hk.1;omega,by have:=hk.2;omega⟩
         ·rw [hbp.out,←hgs.out];exact hLg
         ·rw [hbp.out];simp only [P.left,List.length_map,BO.out];exact ⟨by omega,hc4⟩
         ·rw [hbp.out,←hgs.out];show gs.length≤_;omega
       ·have hy1:(y==0)=false:=by simpa using hy
        have hsz:w2.heap.size<wr.heap.size:=by omega
        by_cases hlt2:j<m
        ·obtain ⟨UY,XD⟩:=UU G7.out hlt2
         go_wp2_with fail
         go_meet
         case rel=>exact ⟨_,_,_,_,_,rfl,rfl,rfl,HG.out.bel,hsz,fun h0=>absurd h0 hy,fun _ hb=>by obtain ⟨c,hc,hn⟩:=HZN.out hy;exact hn ((KG.out hb).2 c hc)⟩
        ·have UZ:decide ((j:Int)+2<(en:Int))=false:=decide_eq_false (OM G7.out hlt2).2
         clear hlt2
         go_wp2_with fail
         go_meet
         case rel=>exact ⟨_,_,_,_,_,rfl,rfl,rfl,HG.out.bel,hsz,fun h0=>absurd h0 hy,fun _ hb=>by obtain ⟨c,hc,hn⟩:=HZN.out hy;exact hn ((KG.out hb).2 c hc)⟩
    ·have HNO:Hid (¬wu 7 l):=anc (fun hb=>by obtain ⟨q,hq,h⟩:=hno;rw [(KG.out hb).1 q hq] at h;cases h)
     clear hno
     go_upto_region 46 with (fail)
     refine wp_loop_rounds 1 ?_
     rw [rounds_succ]
     by_cases hm0:0<m
     ·obtain ⟨UY,XD⟩:=Xz G7.out hm0
      go_wp2_with fail
      go_meet
      case rel =>
       exact ⟨_,_,_,_,_,rfl,rfl,rfl,iP.out.setCell (p:=⟨w2.heap.size,4,none⟩) (ank _) _,UR (anp (anu UX hsk.symm) hs6),fun h0=>absurd h0 (by decide),fun _=>HNO.out⟩
     ·obtain rfl:en=2:=aat G7.out hm0
      clear hm0
      go_wp2_with fail
      go_meet
      case rel =>
       exact ⟨_,_,_,_,_,rfl,rfl,rfl,iP.out.setCell (p:=⟨w2.heap.size,4,none⟩) (ank _) _,UR (anp (anu UX hsk.symm) hs6),fun h0=>absurd h0 (by decide),fun _=>HNO.out⟩
 case rest =>
  obtain ⟨y,z,A9,n9,c9,rfl,rfl,rfl,hbc,hsc,hmid,adF⟩:=hcut
  have SK:Hid (y≠0→¬pV (.mk k s n l a)):=anc (fun h ha=>adF h (by have:=ha.base;rw [HKT.out] at this;exact this))
  have HBC:=anc hbc
  have HT9:=anc ((hbc.block (w.heap.size+1) (by omega)).trans HT2.out)
  clear hbc adF
  by_cases hy:y=0
  ·obtain ⟨a0,rfl,hkl,hK9,hbox,hparts,hbase⟩:=hmid hy
   obtain ⟨p0,hp0⟩:∃ p0,p0=aT kd l:=⟨_,rfl⟩
   obtain ⟨ks,hks⟩:∃ ks,ks=l.drop (l.length-aJ kd):=⟨_,rfl⟩
   have UG:=anc (fun (ps:List QP)(j:Nat) h1 h2=>UQ (ps:=ps) HKT.out hbase (j:=j) h1 h2)
   have HKM:Hid (∀ x∈ks,x∈l):=anc (fun x hx=>by rw [hks] at hx;exact List.mem_of_mem_drop hx)
   have HNK:Hid ((∃ x∈ks,¬pV x)→¬pV (.mk k s n l a)):=anc (fun ⟨x,hx,hn⟩ ha=>hn (by have:=ha.sub;rw [HKT.out] at this;exact this x (by rw [hks] at hx;exact hx)))
   have Yu:Hid (ks.length=aJ kd):=anc (by rw [hks,List.length_drop];omega)
   rw [←hp0] at hbox hparts UG
   rw [←hks] at hK9 UG
   have HPA:=anc hparts
   have Zf:=anc hK9
   have iJ:=anc hbox
   obtain ⟨i0,hi,hz0,hz1,hz2⟩:=info_parts EN
   have hkn2:aJ kd≤2:=by unfold aJ;repeat' split
                         all_goals omega
   obtain ⟨kn,ekn⟩:∃ kn,kn=aJ kd:=⟨_,rfl⟩
   rw [←ekn] at Yu hkn2 ⊢
   clear hmid hkl hK9 hbox hparts hbase hp0 hks hall ekn
   subst hy
   go_upto_region 53 with (fail)
   go_loopw [7,8,16] (fun s7 s8 i wr=>ady w2.heap.size w2 wc a0 p0 ks s7 s8 i wr) (fun _ _ i _=>kn-(intOf i).toNat)
   case atStart=>exact ⟨0,[],.slice none 0 0,0,z,Nat.zero_le _,rfl,rfl,rfl,rfl,iJ.out,⟨rfl,.inl ⟨rfl,rfl⟩⟩,(fun p hp=>by cases hp),HBC.out,fun _ _ _=>rfl,ank _,fun _=>by simp,fun h=>absurd rfl h⟩
   case round =>
    obtain ⟨j,ps,v,y,z,hj,rfl,rfl,rfl,hpl,hbox,hown,hxk,ho,hold,Be,hz,hzn⟩:=hrel
    have HZN:=anc hzn
    clear hzn
    rw [Yu.out] at hj
    have HO:=anc ho
    have HOW:=anc hown
    have VU:=anc hbox
    have Zp:=anc hxk
    have HHO:=anc hold
    have HZ:=anc hz
    have jI:=anc hpl
    clear ho hown hbox hxk hold hz hpl
    by_cases hrun:j<kn∧y=0
    ·obtain ⟨hlt2,rfl⟩:=hrun
     obtain ⟨x,hx⟩:∃ x,ks[j]?=some x:=⟨_,anr (by rw [Yu.out];exact hlt2)⟩
     obtain ⟨bx,ox,A1,c1,ex,hgx,x0,x1,x2,x3,x4,hcx,hKx⟩:=Zf.out.cu _ (anl _ _) j x hx
     subst ex
     obtain ⟨wx,dN⟩:∃ wx,wx=wr.alloc (.cells #[.int .i64 0,.string ⟨#[]⟩,.slice none 0 0,.slice none 0 0,.slice none 0 0,.slice none 0 0,.slice none 0 0,.slice none 0 0] 27):=⟨_,rfl⟩
     have hbx:Below wr.heap.size wr wx:=by rw [dN];exact (anl _ _).alloc (ank _) _
     have hnx:wx.heap[wr.heap.size]?=some (.cells #[.int .i64 0,.string ⟨#[]⟩,.slice none 0 0,.slice none 0 0,.slice none 0 0,.slice none 0 0,.slice none 0 0,.slice none 0 0] 27 (0,0)):=by rw [dN];exact anm wr _
     have hsx:wr.heap.size<wx.heap.size:=by rw [dN];simp
     have hwr2:=HO.out.size
     have qE:Below w2.heap.size w2 wx:=HO.out.trans (hbx.mono hwr2)
     have hxm:=HKM.out x (anq hx)
     have jq:=anc (HM.out x hxm (YM.out x hxm) A1 c1 wx hcx ((hKx.low qE).more (by omega)))
     have q0:=(qE.cell hgx).trans x0
     have q1:=(qE.cell hgx).trans x1
     have q2:=(qE.cell hgx).trans x2
     have q3:=(qE.cell hgx).trans x3
     have q4:=(qE.cell hgx).trans x4
     have HX:=anc hx
     have Aa:=anc hnx
     have jM:=anc dN
     have vH:=anc hbx
     have hv9:Hid (v.ownBlock≠some w2.heap.size):=anc (qy HOW.out hsc)
     have hjm:j≤600:=by omega
     have hjl:j<kn:=hlt2
     have UY:(j:Int)<(kn:Int):=by omega
     clear x0 x1 x2 x3 x4 hcx hKx qE hxm hx hnx dN hbx
     have HCM:Hid (∀ {e:Ending} {w':World},sW wx x e w'→sW wx x e w'):=anc fun h=>h
     obtain ⟨xk,xs,xn,xl,xa⟩:=x
     simp only [T.val,T.k,T.s,T.n,T.kids,T.at_] at q0 q1 q2 q3 q4 jq
     generalize xl.length=xm at *
     go_upto_region 56 with (fail)
     rw [←jM.out]
     go_wp2_with fail
     refine (jq.out).mono ?_
     rintro e w5 ⟨⟨aq,q,y',z',rfl,hX5,hst⟩,hb5⟩
     have qW:=anc hX5
     have HST:=anc hst
     have fP:=anc hb5
     have hs5:=hb5.size
     have Oe:=anc ((hb5.block wr.heap.size hsx).trans Aa.out)
     clear hX5 hst hb5 q0 q1 q2 q3 q4
     have zu:Hid (jS w5 (fun k=>wx.heap.size≤k∧k<w5.heap.size) q aq):=qW
     obtain ⟨qk,WY,Zw,C9,Dc,vV,Zx,Df⟩:=q
     obtain ⟨ea,ec,ca,cc,la,lc,ra,rc,ga,gc,ka,kc⟩:=aq
     simp only [P.val,P.k,P.nm,P.ex,P.cols,P.left,P.right,P.ag,P.kids]
     generalize hl1:Zw.length=m1 at *
     generalize hl2:C9.length=m2 at *
     generalize hl3:Dc.length=m3 at *
     generalize hl4:vV.length=m4 at *
     generalize hl5:Zx.length=m5 at *
     generalize xH:Df.length=m6 at *
     have HQC:Hid (QP.cs ((.mk qk WY Zw C9 Dc vV Zx Df:P),(⟨ea,ec,ca,cc,la,lc,ra,rc,ga,gc,ka,kc⟩:PA))=[.int .i64 qk,.string WY,.slice ea m1 ec,.slice ca m2 cc,.slice la m3 lc,.slice ra m4 rc,.slice ga m5 gc,.slice ka m6 kc]):=anc (by rw [←hl1,←hl2,←hl3,←hl4,←hl5,←xH];rfl)
     clear hl1 hl2 hl3 hl4 hl5 xH
     obtain ⟨w6,G9⟩:∃ w6,w6=rO w5 wr.heap.size (.int .i64 qk) (.string WY) (.slice ea m1 ec) (.slice ca m2 cc) (.slice la m3 lc) (.slice ra m4 rc) (.slice ga m5 gc) (.slice ka m6 kc):=⟨_,rfl⟩
     have HW6:Hid (w6=(((((((w5.setCell ⟨wr.heap.size,0,none⟩ (.int .i64 qk)).setCell ⟨wr.heap.size,1,none⟩ (.string WY)).setCell ⟨wr.heap.size,2,none⟩ (.slice ea m1 ec)).setCell ⟨wr.heap.size,3,none⟩ (.slice ca m2 cc)).setCell ⟨wr.heap.size,4,none⟩ (.slice la m3 lc)).setCell ⟨wr.heap.size,5,none⟩ (.slice ra m4 rc)).setCell ⟨wr.heap.size,6,none⟩ (.slice ga m5 gc)).setCell ⟨wr.heap.size,7,none⟩ (.slice ka m6 kc)):=anc (by rw [G9];rfl)
     have H6B:Hid (w6.heap[wr.heap.size]?=some (.cells #[.int .i64 qk,.string WY,.slice ea m1 ec,.slice ca m2 cc,.slice la m3 lc,.slice ra m4 rc,.slice ga m5 gc,.slice ka m6 kc] 27 (0,0))):=anc (by rw [G9];exact di Oe.out)
     have H6S:Hid (w6.heap.size=w5.heap.size):=anc (by rw [G9];exact kC)
     have H6O:Hid (∀ k,k≠wr.heap.size→w6.heap[k]?=w5.heap[k]?):=anc (fun k hk=>by rw [G9];exact gz hk)
     have H6L:Hid (Below wr.heap.size w5 w6):=anc (by rw [G9];exact dE (anl _ _) (ank _))
     clear G9
     have H6P:Hid (w6.heap[w2.heap.size]?=some (.cells #[.int .i64 p0.k,.string p0.nm,.slice a0.ea p0.ex.length a0.ec,.slice a0.ca p0.cols.length a0.cc,.slice a0.la p0.left.length a0.lc,.slice a0.ra p0.right.length a0.rc,.slice a0.ga p0.ag.length a0.gc,v] 27 (0,0))):=anc ((H6O.out _ (by omega)).trans ((fP.out.block _ (by omega)).trans ((vH.out.block _ (by omega)).trans VU.out)))
     have nU:=anc (rW (own_below (own_below HOW.out vH.out) fP.out) (fun k e=>H6O.out k (by have:=(HOW.out.lt k e).2;omega)))
     obtain ⟨n0,n1,n2,n3,n4,n5,n6,n7,u0,u1,u2,u3,u4,u5,u6,u7⟩:=az Oe.out
     go_upto_region 57 with (fail)
     rw [←HW6.out]
     obtain ⟨r0,r1,r2,r3,r4,r5,r6,r7,_,_,_,_,_,_,_,_⟩:=az H6B.out
     obtain ⟨d0,d1,d2,d3,d4,d5,d6,d7,f0,f1,f2,f3,f4,f5,f6,f7⟩:=az H6P.out
     go_wp2_with (at_builtin;refine wpList_append_lies _ rfl _ _ 25 rfl wc.heap.size 27 i0 _ 8 168 Tryz.underlying25 hi hz0 hz1 hz2 rfl (by decide) v j (kM ps) rfl (nU.out.alloc _) ⟨w6.heap.size,0,none⟩ 1 1 [.int .i64 qk,.string WY,.slice ea m1 ec,.slice ca m2 cc,.slice la m3 lc,.slice ra m4 rc,.slice ga m5 gc,.slice ka m6 kc] rfl rfl ?c1 ?c2 (by decide) ?c3 ?c4 ?c5 _ rfl ?_)
     case c1=>exact World.news_of_block (anm w6 _)
     case c2=>intro u hu;simp only [List.mem_cons,List.not_mem_nil,or_false] at hu;rcases hu with rfl | rfl | rfl | rfl | rfl | rfl | rfl | rfl <;> rfl
     case c3=>exact Ot hjm
     case c4=>exact Jj hjm
     case c5=>have:=H6S.out;simp;omega
     intro g' cap w7 fU hgrow hat Ee
     have uU:Hid (w6.grownBy w7 v.ownBlock):=anc ((World.grownBy_alloc _ _ _).trans hgrow)
     have Ef:=anc fU
     have HAT:Hid (v.ownBlock=some g'∨w6.heap.size≤g'):=anc (hat.imp id fun h=>by rw [h];simp)
     have DV:=anc ((uU.out.block w2.heap.size (by have:=(Array.getElem?_eq_some_iff.1 H6P.out).1;exact this) (fun e=>hv9.out e.symm)).trans H6P.out)
     clear fU hgrow hat d0 d1 d2 d3 d4 d5 d6 d7 f0 f1 f2 f3 f4 f5 f6 f7 r0 r1 r2 r3 r4 r5 r6 r7
     obtain ⟨d0,d1,d2,d3,d4,d5,d6,d7,f0,f1,f2,f3,f4,f5,f6,f7⟩:=az DV.out
     go_wp2_with fail
     go_roundw
     case measure=>exact Bg hlt2
     case rel=>exact QT HX.out jI.out hsc HOW.out Zp.out HO.out HHO.out Be (HZ.out (by first | rfl | trivial)) HST.out vH.out hsx fP.out zu.out (fun k h1 h2=>H6O.out k h2) (by rw [H6S.out];exact ank _) H6L.out uU.out (by rw [HQC.out];exact Ef.out) HAT.out DV.out
    ·by_cases hy:y=0
     ·subst hy
      have hn2:¬j<kn:=fun h=>hrun ⟨h,rfl⟩
      obtain rfl:j=kn:=by omega
      have hps:Hid (aX (.mk k s n l a) (0,0)=(p0.put (ps.map Prod.fst),0,0)):=anc (UG.out ps j (by rw [Yu.out];omega) (HZ.out (by first | rfl | trivial)))
      obtain ⟨A9',c9',rfl,Gp,wG⟩:=EM (S:=fun k=>wc.heap.size≤k∧k<wr.heap.size) (by rw [jI.out];exact HOW.out) (by rw [jI.out];omega) (fun g h1 h2=>⟨h1,h2⟩) (fun x hx=>(Zp.out x hx).mono fun k hk=>⟨hk.1,hk.2.1⟩)
      have EE:=anc wG
      have Zy:=anc ((HO.out.block (w.heap.size+1) (by omega)).trans HT2.out)
      have BX:=anc (HPA.out.kept fun k hk=>HHO.out k hk.1 hk.2)
      have hlm:(ps.map Prod.fst).length=j:=by rw [List.length_map];exact jI.out
      have HLM:=anc hlm
      clear wG hn2 hrun
      obtain ⟨d0,d1,d2,d3,d4,d5,d6,d7,f0,f1,f2,f3,f4,f5,f6,f7⟩:=az VU.out
      obtain ⟨t0,t1,t2,t3,t4,t5,t6,t7,g0,g1,g2,g3,g4,g5,g6,g7⟩:=az Zy.out
      go_wp2_with fail
      refine ano (eX rfl rfl rfl rfl (di Zy.out)) rfl ?_
      refine ⟨⟨{ a0 with ka:=A9',kc:=c9' },p0.put (ps.map Prod.fst),0,0,(by rw [Oq,HLM.out];rfl),?_,.inl ⟨rfl,hps.out⟩⟩,dE (Hw.out.trans (HO.out.mono (by omega))) (Nat.le_succ _)⟩
      exact Ny BX.out EE.out (by omega) (by omega) (by omega) (by omega)
     ·have hy1:(y==0)=false:=by simpa using hy
      have hy2:(y != 0)=true:=by simpa using hy
      have Zy:=anc ((HO.out.block (w.heap.size+1) (by omega)).trans HT2.out)
      obtain ⟨t0,t1,t2,t3,t4,t5,t6,t7,g0,g1,g2,g3,g4,g5,g6,g7⟩:=az Zy.out
      by_cases hlt2:j<kn
      ·go_wp2_with fail
       refine ano (eX rfl rfl rfl rfl (di Zy.out)) rfl ?_
       exact pW (HNK.out (HZN.out hy)) hy rfl (dE (Hw.out.trans (HO.out.mono (by omega))) (Nat.le_succ _))
      ·go_wp2_with fail
       refine ano (eX rfl rfl rfl rfl (di Zy.out)) rfl ?_
       exact pW (HNK.out (HZN.out hy)) hy rfl (dE (Hw.out.trans (HO.out.mono (by omega))) (Nat.le_succ _))
  ·have hy1:(y==0)=false:=by simpa using hy
   have hy2:(y != 0)=true:=by simpa using hy
   obtain ⟨t0,t1,t2,t3,t4,t5,t6,t7,g0,g1,g2,g3,g4,g5,g6,g7⟩:=az HT9.out
   clear hmid
   by_cases hn0:n9=0
   ·subst hn0
    go_upto_region 53 with (fail)
    refine wp_loop_rounds 1 ?_
    rw [rounds_succ]
    go_wp2_with fail
    refine ano (eX rfl rfl rfl rfl (di HT9.out)) rfl ?_
    exact pW (SK.out hy) hy rfl (dE (Hw.out.trans (HBC.out.mono (by omega))) (Nat.le_succ _))
   ·have hn1:0<n9:=by omega
    go_upto_region 53 with (fail)
    refine wp_loop_rounds 1 ?_
    rw [rounds_succ]
    go_wp2_with fail
    refine ano (eX rfl rfl rfl rfl (di HT9.out)) rfl ?_
    exact pW (SK.out hy) hy rfl (dE (Hw.out.trans (HBC.out.mono (by omega))) (Nat.le_succ _))
theorem U2:∀ t,Nw t:=T.ind fun k s n l a ih=>QV k s n l a ih
end Go.Proofs.YtjhkihkiebnpaaaGreatDoor
