/-
  Plans that are read of good trees: what their text and their checking ask. No program in sight.
-/
import Derived.Test.YtjhkihkiebnpaaaGreatDoorMj0
import Derived.Test.YtjhkihkiebnpaaaGreatDoorMj15
import Derived.Test.YtjhkihkiebnpaaaGreatDoorMj7
import Derived.Test.YtjhkihkiebnpaaaGreatDoorMj16
import Derived.Test.YtjhkihkiebnpaaaGreatDoorMj8
import Derived.Test.YtjhkihkiebnpaaaGreatDoorMj17
import Derived.Test.YtjhkihkiebnpaaaGreatDoorMj11
import Derived.Test.YtjhkihkiebnpaaaGreatDoorMj4
import Derived.Test.YtjhkihkiebnpaaaGreatDoorMj2
set_option linter.unusedVariables false
set_option linter.unusedSimpArgs false
set_option maxRecDepth 100000
set_option maxHeartbeats 40000000
namespace Go.Proofs.YtjhkihkiebnpaaaGreatDoor
open Go.RowKit
theorem EU:∀ (l:List T)(s:jL),(gu l 0 s).2.1=0→(gu l 0 s).1=l.map fun t=>(fU t s).1
 | [],s,_=>by rw[gu];rfl
 | x::l,s,h=>by
   rw[gu] at h ⊢
   simp only at h ⊢
   have h1:=(nX l (fun t _=>mX t) _ h).1
   have h2:(fU x s).2.1=0:=by rw[←h1];exact h
   have h3:=(mX x s h2).1
   rw[h3] at h ⊢
   rw[EU l s h,List.map_cons]
theorem Bg {l:List T} (h:∀ e∈l,T.Good e)(i:Nat):T.Good (l.getD i dW):=by
 rw[List.getD_eq_getElem?_getD]
 cases hx:l[i]? with
 | none=>exact Sr
 | some x=>exact h x (aN hx)
theorem Wq {t:T} (hg:t.Good)(hr:(dX t).2.1=0):E.Fine (dX t).1∧qC (dX t).1:=⟨(SL t hg).1,(vz t hr).2.2⟩
theorem EW {l:List T} (h:∀ e∈l,T.Good e):∀ x∈l.map T.s,x.size≤600:=fun x hx=>by
 obtain⟨t,ht,rfl⟩:=List.mem_map.1 hx
 exact yh (h t ht)
theorem abU {t:T} {s:jL} (h:(Ak t s).1=0):Ak t s=s∧nameB (t.kids.getD 0 dW).s=true:=by
 have h0:=(Qk h).1
 refine⟨h0,?_⟩
 unfold Ak at h
 obtain⟨h1,h2⟩:=zq h
 rw[h1] at h
 exact (oJ h).2
theorem abV {l:List T} {s:jL} (h:(rV l s).1=0):rV l s=s∧nameB (l.getD 0 dW).s=true:=by
 refine⟨(Qj h).1,?_⟩
 have h1:(qP l s).1=0:=by
  unfold rV at h
  split at h
  ·have:=(oJ h).1;rw[this] at h;exact h
  ·exact h
 unfold qP at h1
 split at h1
 ·exact (oJ h1).2
 ·exact absurd h1 (zo (by decide) _ _)
theorem PG:∀ t:T,t.Good→(fU t (0,0)).2.1=0→jS (fU t (0,0)).1:=T.ind fun k s n l a ih hg h=>by
 obtain⟨_,_,_,_,_,_,_,_,_,Aw,hgk⟩:=hg
 rw[fU] at h ⊢
 simp only at h ⊢
 have hall:=zt (lh (.mk k s n l a)).toList l
 rw[show gJ (lh (.mk k s n l a)).toList l=jK (.mk k s n l a) from rfl] at hall
 generalize jK (.mk k s n l a)=kd at *
 rw[lq] at h ⊢
 obtain⟨h1,_,_⟩:=nX (l.drop (l.length-dY kd)) (fun t _=>mX t) _ h
 have h':=h
 rw[h1] at h'
 obtain⟨b1,b2,b3,b4,b5,b6⟩:=Ed h'
 have hbr:=h'
 rw[b1] at h ⊢
 have hpl:=Es _ _ h
 rw[EU _ _ h]
 have hkids:∀ p∈(l.drop (l.length-dY kd)).map (fun t=>(fU t (0,0)).1),jS p:=fun p hp=>by
  obtain⟨t,ht,rfl⟩:=List.mem_map.1 hp
  have ZO:=List.mem_of_mem_drop ht
  exact ih t ZO (hgk t ZO) (hpl t ht)
 have hlen:dY kd≤l.length→((l.drop (l.length-dY kd)).map (fun t=>(fU t (0,0)).1)).length=dY kd:=fun h=>by rw[bM,List.length_drop];omega
 have hg1:=Bg hgk 1
 have hg2:=Bg hgk 2
 have hmid:∀ i t,t∈fV l i→T.Good t:=fun i t ht=>hgk t (List.mem_of_mem_drop (List.mem_of_mem_take ht))
 have hml:∀ i,(fV l i).length≤600:=fun i=>by unfold fV;rw[List.length_take,List.length_drop];omega
 rcases hall with e|⟨e,hw,hl,ha⟩|⟨e,hw,hl⟩|⟨e,hw,hl,ha⟩|⟨e,hw,hl,ha,hb⟩|⟨e,hw,hl⟩|⟨e,hw,hl⟩|⟨e,hw,hl,ha,hb⟩
 ·omega
 ·subst e
  show jS (.mk 1 (l.getD 1 dW).s [] [] [] [] [] _)
  exact .mk _ _ _ _ _ _ _ _ (by decide) (by decide) (fun e he=>by cases he) (fun e=>by simp at e) (fun e=>by simp at e) (by simp) (fun x hx=>by cases hx) (fun x hx=>by cases hx) (hlen (by show 0≤_;omega)) (fun x hx=>by cases hx) (by simp) (by simp) (by simp) (by simp) hkids
 ·subst e
  show jS (.mk 2 ⟨#[]⟩ [(dX (l.getD 1 dW)).1] [] [] [] [] _)
  refine .mk _ _ _ _ _ _ _ _ (by decide) (by decide) (fun e he=>?_) (fun e=>rfl) (fun e=>by simp at e) (by simp) (fun x hx=>by cases hx) (fun x hx=>by cases hx) (hlen (by show 1≤_;omega)) (fun x hx=>by cases hx) (by simp) (by simp) (by simp) (by simp) hkids
  obtain rfl:e=(dX (l.getD 1 dW)).1:=by simpa using he
  exact Wq hg1 (b2 rfl)
 ·subst e
  show jS (.mk 3 ⟨#[]⟩ ((fV l 1).map wW) ((fV l 1).map oP) [] [] [] _)
  refine .mk _ _ _ _ _ _ _ _ (by decide) (by decide) (fun e he=>?_) (fun e=>by simp at e) (fun e=>by rw[bM,bM]) (by rw[bM,bM];exact aF _) (fun x hx=>?_) (fun x hx=>by cases hx) (hlen (by show 1≤_;omega)) (fun x hx=>by cases hx) (by simp) (by simp) (by rw[bM];exact hml 1) (by simp) hkids
  ·obtain⟨t,ht,rfl⟩:=List.mem_map.1 he
   exact Wq (Bg (jO (hmid 1 t ht)).2 1) (b3 rfl t ht)
  ·obtain⟨t,ht,rfl⟩:=List.mem_map.1 hx
   exact (wP Ak (fun t=>nameB (t.kids.getD 0 dW).s=true) (fun s t h=>abU h) _ _ hbr).2 t ht
 ·subst e
  show jS (.mk 4 ⟨#[]⟩ [] [] ((l.getD 1 dW).kids.map T.s) ((l.getD 2 dW).kids.map T.s) [] _)
  refine .mk _ _ _ _ _ _ _ _ (by decide) (by decide) (fun e he=>by cases he) (fun e=>by simp at e) (fun e=>by simp at e) (by simp) (fun x hx=>by cases hx) (fun x hx=>by cases hx) (hlen (by show 2≤_;omega)) (fun x hx=>?_) ?_ ?_ (by simp) (by simp) hkids
  ·rcases cu.1 hx with hx|hx
   ·exact EW (jO hg1).2 x hx
   ·exact EW (jO hg2).2 x hx
  ·rw[bM];exact (jO hg1).1
  ·rw[bM];exact (jO hg2).1
 ·subst e
  show jS (.mk 5 ⟨#[]⟩ [] [] [] [] [] _)
  exact .mk _ _ _ _ _ _ _ _ (by decide) (by decide) (fun e he=>by cases he) (fun e=>by simp at e) (fun e=>by simp at e) (by simp) (fun x hx=>by cases hx) (fun x hx=>by cases hx) (hlen (by show 2≤_;omega)) (fun x hx=>by cases hx) (by simp) (by simp) (by simp) (by simp) hkids
 ·subst e
  show jS (.mk 6 ⟨#[]⟩ [] [] [] [] [] _)
  exact .mk _ _ _ _ _ _ _ _ (by decide) (by decide) (fun e he=>by cases he) (fun e=>by simp at e) (fun e=>by simp at e) (by simp) (fun x hx=>by cases hx) (fun x hx=>by cases hx) (hlen (by show 1≤_;omega)) (fun x hx=>by cases hx) (by simp) (by simp) (by simp) (by simp) hkids
 ·subst e
  show jS (.mk 7 ⟨#[]⟩ [] [] ((l.getD 1 dW).kids.map T.s) [] ((fV l 2).map qE) _)
  refine .mk _ _ _ _ _ _ _ _ (by decide) (by decide) (fun e he=>by cases he) (fun e=>by simp at e) (fun e=>by simp at e) (by simp) (fun x hx=>by cases hx) (fun g hg=>?_) (hlen (by show 1≤_;omega)) (fun x hx=>?_) ?_ (by simp) (by simp) (by rw[bM];exact hml 2) hkids
  ·obtain⟨t,ht,rfl⟩:=List.mem_map.1 hg
   have hag:(oW (fV l 2) (jc (l.getD 1 dW).kids (0,0))).1=0:=hbr
   exact (wP (fun t s=>rV t.kids s) (fun t=>nameB (t.kids.getD 0 dW).s=true) (fun s t h=>abV h) _ _ hag).2 t ht
  ·rw[List.append_nil] at hx
   exact EW (jO hg1).2 x hx
  ·rw[bM];exact (jO hg1).1
structure TF (p:P):Prop where
 good:jS p
 prn:uG (fD p)
 size:(uN p).size≤600
def JC (s:ByteArray)(q:P):Prop:=∃ t,YR s=some (some t)∧sH t∧fU t (0,0)=(q,0,0)∧(uN q).size≤600
def Z8 (s:ByteArray)(w:World)(e:Ending)(w':World):Prop:=(∃ (a:PA)(p:P)(why at_:Int),e=.returned (.tuple #[p.val a,.int .i64 why,.int .i64 at_])∧kY w' (fun k=>w.heap.size≤k∧k<w'.heap.size) p a∧(p=gq∨TF p)∧(∀ q,JC s q→p=q))∧Below w.heap.size w w'
theorem EZ {s:ByteArray} {w w':World} {e:Ending} {why at_:Int} (hno:∀ q,¬JC s q)(he:e=.returned (.tuple #[.agg #[.int .i64 0,.string ⟨#[]⟩,.slice none 0 0,.slice none 0 0,.slice none 0 0,.slice none 0 0,.slice none 0 0,.slice none 0 0],.int .i64 why,.int .i64 at_]))(hb:Below w.heap.size w w'):Z8 s w e w' :=
 ⟨⟨ru,gq,why,at_,he,Iy _ _,.inl rfl,fun q h=>absurd h (hno q)⟩,hb⟩
theorem Zc {t:T} {p:P} (hg:t.Good)(hd:t.Deep 13)(h:fU t (0,0)=(p,0,0)):jS p∧uG (fD p):=by
 have h0:(fU t (0,0)).2.1=0:=by rw[h]
 have h1:=PG t hg h0
 have h2:=(mX t (0,0) h0).2.1
 have h3:=(Ye t 13 (aF _) hg hd h0).1
 rw[h] at h1 h2
 exact⟨h1,by rw[h2];exact h3⟩
theorem QI {w wf:World} {q:P} {a:PA} {x0 x1 x2 x3 x4 x5 x6 x7:Value} (h:kY wf (fun k=>w.heap.size<k∧k<wf.heap.size) q a):kY (uY wf w.heap.size x0 x1 x2 x3 x4 x5 x6 x7) (fun k=>w.heap.size≤k∧k<(uY wf w.heap.size x0 x1 x2 x3 x4 x5 x6 x7).heap.size) q a :=
 (h.kept fun k hk=>jH (by have:=hk.1;omega)).mono fun k hk=>⟨bV hk.1,by rw[mV];exact hk.2⟩
theorem MK (s:ByteArray)(w:World):Calls Tryz.prog 21 #[.string s] w (Z8 s w):=by
 obtain⟨w1,dZ⟩:∃ w1,w1=w.alloc (.cells #[.int .i64 0,.string ⟨#[]⟩,.slice none 0 0,.slice none 0 0,.slice none 0 0,.slice none 0 0,.slice none 0 0,.slice none 0 0] 27):=⟨_,rfl⟩
 have hb1:Below w.heap.size w w1:=by rw[dZ];exact (aG _ _).alloc (aF _) _
 have hs1:w.heap.size<w1.heap.size:=by rw[dZ];simp
 have jJ:Hid (w1.heap[w.heap.size]?=some (.cells #[.int .i64 0,.string ⟨#[]⟩,.slice none 0 0,.slice none 0 0,.slice none 0 0,.slice none 0 0,.slice none 0 0,.slice none 0 0] 27 (0,0))):=ae (by rw[dZ];exact aH w _)
 have HW1:=ae dZ
 have HB1:=ae hb1
 have Js:=ae (PI s w1)
 clear dZ hb1
 go_enter Tryz.func21,Tryz.ntmps21
 go_upto_region 1 with (fail)
 rw[←HW1.o]
 go_wp2_with fail
 refine (Js.o).mono ?_
 rintro e w2 ⟨⟨t,A,c,why,at_,rfl,⟨hg,hd⟩,hc,hX,hrx⟩,hb2⟩
 have HRX:Hid (∀ q,JC s q→why=0∧sH t∧fU t (0,0)=(q,0,0)∧(uN q).size≤600):=ae (fun q h=>by
  obtain⟨r,h1,h2,h3,h4⟩:=h
  obtain⟨e1,rfl⟩:=hrx r h1
  exact⟨e1,h2,h3,h4⟩)
 clear hrx
 have HGT:=ae (bU hg hd)
 have HXT:=ae hX
 have hs2:=hb2.size
 have HB2:=ae (HB1.o.trans (hb2.mono HB1.o.size))
 have iI:=ae ((hb2.block w.heap.size hs1).trans jJ.o)
 clear hg hd hX hb2
 obtain⟨tm,ZO⟩:∃ tm,t.kids.length=tm:=⟨_,rfl⟩
 obtain⟨w3,ny⟩:∃ w3,w3=w2.alloc (.cells #[.int .i64 t.k,.string t.s,.int .i64 t.n,.slice A t.kids.length c,.int .i64 t.at_] 86):=⟨_,rfl⟩
 have hb3:Below w2.heap.size w2 w3:=by rw[ny];exact (aG _ _).alloc (aF _) _
 have HT3:Hid (w3.heap[w2.heap.size]?=some (.cells #[.int .i64 t.k,.string t.s,.int .i64 t.n,.slice A t.kids.length c,.int .i64 t.at_] 86 (0,0))):=ae (by rw[ny];exact aH w2 _)
 have N8:=ae (Wp t HGT.o.1 A c w3 hc (((HXT.o.to (B:=w2.heap.size) fun k hk=>hk.2).low hb3).more hb3.size))
 have FT:Hid (∀ p,fU t (0,0)=(p,0,0)→jS p∧uG (fD p)):=ae (fun p h=>Zc HGT.o.1 HGT.o.2 h)
 have HFP:Hid (∀ {e w'},vX w3 t e w'→∃ (a:PA)(p:P)(y z:Int),e=.returned (.tuple #[p.val a,.int .i64 y,.int .i64 z])∧kY w' (fun k=>w3.heap.size≤k∧k<w'.heap.size) p a∧((y=0∧jS p∧uG (fD p))∨(y≠0∧p=gq))∧(∀ q,JC s q→y=0∧p=q∧(uN q).size≤600)∧Below w3.heap.size w3 w'):=ae (fun h=>by
  obtain⟨⟨a,p,y,z,he,hA,hp⟩,hb⟩:=h
  refine⟨a,p,y,z,he,hA,?_,fun q hq=>?_,hb⟩
  ·rcases hp with⟨h1,h2⟩|h
   ·exact .inl ⟨h1,FT.o p h2⟩
   ·exact .inr ⟨h.1,h.2.1⟩
  ·obtain⟨_,h5,h6,h7⟩:=HRX.o q hq
   rcases hp with⟨h1,h2⟩|h
   ·exact⟨h1,by rw[h2] at h6;exact congrArg Prod.fst h6,h7⟩
   ·exact absurd h5 h.2.2)
 have HW3:=ae ny
 have HB3:=ae (HB2.o.trans (hb3.mono HB2.o.size))
 have nO:=ae ((hb3.block w.heap.size (aK hs1 hs2)).trans iI.o)
 have hs3:w2.heap.size≤w3.heap.size:=hb3.size
 clear ny hb3 FT HGT hc HXT ZO
 obtain⟨tk,ts,tn,tl,ta⟩:=t
 simp only[T.val,T.k,T.s,T.n,T.kids,T.at_] at HT3 N8 HW3 ⊢
 generalize tl.length=m at *
 go_upto_region 2 with (fail)
 rw[←HW3.o]
 by_cases h0:why=0
 ·subst h0
  obtain⟨⟨k0,k1,k2,k3,k4⟩,_,_,_,_,_⟩:=dN HT3.o
  go_wp2_with fail
  refine (N8.o).mono ?_
  rintro e w4 hpost
  obtain⟨aq,q,y,z,rfl,hA4,hst,hrk,hb4⟩:=HFP.o hpost
  have HRK:=ae hrk
  clear hrk
  have HA4:=ae hA4
  have HST:=ae hst
  have hs4:=hb4.size
  have HB4:=ae (HB3.o.trans (hb4.mono HB3.o.size))
  have uz:=ae ((hb4.block w.heap.size (aK hs1 (aS hs2 hs3))).trans nO.o)
  clear hA4 hst hb4 hpost k0 k1 k2 k3 k4
  obtain⟨w5,yx⟩:∃ w5,w5=w4.alloc (.cells (q.bx aq) 27):=⟨_,rfl⟩
  have hb5:Below w4.heap.size w4 w5:=by rw[yx];exact (aG _ _).alloc (aF _) _
  have wV:Hid (w5.heap[w4.heap.size]?=some (.cells (q.bx aq) 27 (0,0))):=ae (by rw[yx];exact aH w4 _)
  have Ue:=ae yx
  have jA:=ae (HB4.o.trans (hb5.mono HB4.o.size))
  have uC:=ae ((hb5.block w.heap.size (aK hs1 (aS hs2 (aS hs3 hs4)))).trans uz.o)
  have Nw:=ae ((HA4.o.kept (w':=w5) (fun k hk=>hb5.block k hk.2)).mono (S':=fun k=>k<w5.heap.size) (fun k hk=>aK hk.2 hb5.size))
  have HTX:=ae (fun (h1:jS q)(h2:uG (fD q))=>SC q (VB q h1) h2 aq w5 Nw.o)
  have HPP:Hid ((⟨(jr (fD q)).toArray⟩:ByteArray)=uN q):=ae rfl
  rw[HPP.o] at HTX
  have HOF:Hid (∀ (wf:World),Below w5.heap.size w5 wf→kY wf (fun k=>w.heap.size<k∧k<wf.heap.size) q aq):=ae (fun wf hb=>(HA4.o.kept (w':=wf) (fun k hk=>(hb.block k (aK hk.2 hb5.size)).trans (hb5.block k hk.2))).mono (fun k hk=>⟨by have:=hk.1;omega,aK hk.2 (aS hb5.size hb.size)⟩))
  have hs5:w4.heap.size<w5.heap.size:=(aU.1 wV.o).1
  clear yx hb5 Nw
  generalize hpq:uN q=pq at *
  have HPQ:=ae hpq
  clear hpq HPP
  have HQZ:Hid (y≠0→q=gq):=ae (fun h=>by rcases HST.o with⟨h1,_⟩|⟨_,h1⟩;exact absurd h1 h;exact h1)
  have HQG:Hid (y=0→jS q∧uG (fD q)):=ae (fun h=>by rcases HST.o with⟨_,h1⟩|⟨h1,_⟩;exact h1;exact absurd h h1)
  clear HST
  have aja:Hid (∀ v:Value,v=q.val aq→v=q.val aq):=ae fun v h=>h
  obtain⟨q0,hq0⟩:∃ q0,q0=q:=⟨_,rfl⟩
  rw[←hq0] at HQZ HQG HOF HPQ HRK
  have HQ0:Hid (q0=q):=ae hq0
  have acm:Hid (∀ (h1:jS q0)(h2:uG (fD q0)),Calls Tryz.prog 41 #[q.val aq] w5 fun e w'=>e=.returned (.string pq)∧Below w5.heap.size w5 w'):=ae (by rw[hq0];exact HTX.o)
  clear HTX aja hq0
  obtain⟨qk,Yp,qex,Ez,EC,xX,qag,ED⟩:=q
  obtain⟨a0,acn⟩:∃ a0,a0=aq:=⟨_,rfl⟩
  rw[←acn] at HOF
  have HA0:Hid (a0=aq):=ae acn
  clear acn
  obtain⟨ea,ec,ca,cc,la,lc,ra,rc,ga,gc,ka,kc⟩:=aq
  simp only[P.bx,P.val,P.k,P.nm,P.ex,P.cols,P.left,P.right,P.ag,P.kids] at wV Ue acm ⊢
  have ZP:Hid (q0.val a0=.agg #[.int .i64 qk,.string Yp,.slice ea qex.length ec,.slice ca Ez.length cc,.slice la EC.length lc,.slice ra xX.length rc,.slice ga qag.length gc,.slice ka ED.length kc]):=ae (by rw[HQ0.o,HA0.o];rfl)
  clear HQ0 HA0 HA4
  generalize qex.length=m1 at *
  generalize Ez.length=m2 at *
  generalize EC.length=m3 at *
  generalize xX.length=m4 at *
  generalize qag.length=m5 at *
  generalize ED.length=m6 at *
  go_upto_region 5 with (fail)
  rw[←Ue.o]
  by_cases hy:y=0
  ·subst hy
   obtain⟨hg1,hg2⟩:=HQG.o rfl
   have uD:=ae (acm.o hg1 hg2)
   have HG1:=ae hg1
   have HG2:=ae hg2
   obtain⟨d0,d1,d2,d3,d4,d5,d6,d7,_,_,_,_,_,_,_,_⟩:=dO wV.o
   clear hg1 hg2 acm
   go_wp2_with fail
   refine (uD.o).mono ?_
   rintro e w6 ⟨rfl,hb6⟩
   have Gi:=ae ((hb6.block w.heap.size (by omega)).trans uC.o)
   have CV:=ae ((hb6.block w4.heap.size hs5).trans wV.o)
   have kD:=ae (jA.o.trans (hb6.mono jA.o.size))
   have Ny:=ae (HOF.o w6 hb6)
   clear hb6 d0 d1 d2 d3 d4 d5 d6 d7
   obtain⟨d0,d1,d2,d3,d4,d5,d6,d7,_,_,_,_,_,_,_,_⟩:=dO CV.o
   obtain⟨t0,t1,t2,t3,t4,t5,t6,t7,g0,g1,g2,g3,g4,g5,g6,g7⟩:=dO Gi.o
   by_cases hl:600<pq.size
   ·have hl2:(600:Int)<(pq.size:Int):=by omega
    go_wp2_with fail
    refine aJ (jb rfl rfl rfl rfl (gV Gi.o)) rfl ?_
    exact EZ (fun q h=>by obtain⟨_,e,h3⟩:=HRK.o q h;rw[←e,HPQ.o] at h3;omega) rfl (iq kD.o (aF _))
   ·have hl2:¬(600:Int)<(pq.size:Int):=by omega
    have hl3:decide ((600:Int)<(pq.size:Int))=false:=decide_eq_false hl2
    have HL:Hid (pq.size≤600):=ae (by omega)
    clear hl hl2
    go_wp2_with fail
    refine aJ (jb rfl rfl rfl rfl (gV Gi.o)) rfl ?_
    refine⟨⟨a0,q0,0,z,by rw[ZP.o];rfl,?_,.inr ⟨HG1.o,HG2.o,by rw[HPQ.o];exact HL.o⟩,fun q h=>(HRK.o q h).2.1⟩,iq kD.o (aF _)⟩
    exact (QI Ny.o)
  ·have hy1:(y==0)=false:=by simpa using hy
   have hqz:=HQZ.o hy
   obtain⟨d0,d1,d2,d3,d4,d5,d6,d7,_,_,_,_,_,_,_,_⟩:=dO wV.o
   obtain⟨t0,t1,t2,t3,t4,t5,t6,t7,g0,g1,g2,g3,g4,g5,g6,g7⟩:=dO uC.o
   have HQN:=ae hqz
   have HP5:=ae (HOF.o w5 (aG _ _))
   clear hqz
   go_wp2_with fail
   refine aJ (jb rfl rfl rfl rfl (gV uC.o)) rfl ?_
   exact⟨⟨a0,q0,y,z,by rw[ZP.o];rfl,QI HP5.o,.inl HQN.o,fun q h=>absurd (HRK.o q h).1 hy⟩,iq jA.o (aF _)⟩
 ·have h1:(why != 0)=true:=by simpa using h0
  obtain⟨t0,t1,t2,t3,t4,t5,t6,t7,g0,g1,g2,g3,g4,g5,g6,g7⟩:=dO nO.o
  go_wp2_with fail
  refine aJ (jb rfl rfl rfl rfl (gV nO.o)) rfl ?_
  exact EZ (fun q h=>h0 (HRX.o q h).1) rfl (iq HB3.o (aF _))
def ckU:List C:=[⟨⟨#[97]⟩,1⟩,⟨⟨#[99]⟩,1⟩]
def Uf:List C:=[⟨⟨#[97]⟩,1⟩,⟨⟨#[98]⟩,1⟩,⟨⟨#[115]⟩,2⟩]
theorem ajb (w:World):Calls Tryz.prog 25 #[] w fun e w'=>e=.returned (.slice (some ⟨w.heap.size,0,none⟩) 2 2)∧w.alloc (.cells #[.string ⟨#[97]⟩,.int .i64 1,.string ⟨#[99]⟩,.int .i64 1] 42)=w':=by
 go_enter Tryz.func25,Tryz.ntmps25
 go_wp2_with fail
 go_ret
 exact⟨rfl,rfl⟩
theorem afc (w:World):Calls Tryz.prog 24 #[] w fun e w'=>e=.returned (.slice (some ⟨w.heap.size,0,none⟩) 3 3)∧w.alloc (.cells #[.string ⟨#[97]⟩,.int .i64 1,.string ⟨#[98]⟩,.int .i64 1,.string ⟨#[115]⟩,.int .i64 2] 42)=w':=by
 go_enter Tryz.func24,Tryz.ntmps24
 go_wp2_with fail
 go_ret
 exact⟨rfl,rfl⟩
theorem Wy {l:List C} {w:World} {b:Nat} (h0:∀ i x,l[i]?=some x→w.cell? ⟨b,i*2,none⟩=some (.string x.nm)∧w.cell? ⟨b,i*2+1,none⟩=some (.int .i64 x.k)) {S:Nat→Prop} (hS:S b):iY w S (some ⟨b,0,none⟩) l :=
 .inr ⟨b,0,rfl,hS,fun i x hx=>by rw[Nat.zero_add];exact h0 i x hx⟩
def pX (n:Nat):List DM:=[⟨⟨#[116]⟩,some ⟨n,0,none⟩,3,Uf⟩,⟨⟨#[117]⟩,some ⟨n+1,0,none⟩,2,ckU⟩]
theorem ug (n:Nat):∀ d∈pX n,d.cols.length≤6:=by
 intro d hd
 simp only[pX,bZ,bI,or_false] at hd
 rcases hd with rfl|rfl <;> simp[Uf,ckU]
theorem Bh (n:Nat):Bv ((pX n).map DM.key)=0:=by
 show Bv [(⟨#[116]⟩,Uf),(⟨#[117]⟩,ckU)]=0
 kernel_rfl
theorem Zd {w:World} {n:Nat} {S:Nat→Prop} (h0:w.heap[n]?=some (.cells #[.string ⟨#[97]⟩,.int .i64 1,.string ⟨#[98]⟩,.int .i64 1,.string ⟨#[115]⟩,.int .i64 2] 42 (0,0)))(h1:w.heap[n+1]?=some (.cells #[.string ⟨#[97]⟩,.int .i64 1,.string ⟨#[99]⟩,.int .i64 1] 42 (0,0)))
 (h2:w.heap[n+2]?=some (.cells #[.string ⟨#[116]⟩,.slice (some ⟨n,0,none⟩) 3 3,.string ⟨#[117]⟩,.slice (some ⟨n+1,0,none⟩) 2 2] 66 (0,0)))(s0:S n)(s1:S (n+1))(s2:S (n+2)):mf w S (some ⟨n+2,0,none⟩) (pX n):=by
 refine⟨.inr ⟨n+2,0,rfl,s2,fun i t ht=>?_⟩,fun t ht=>?_,fun t ht=>?_⟩
 ·match i with
  | 0=>obtain rfl:=aY ht;constructor <;> simp[World.cell?,h2,Uf]
  | 1=>obtain rfl:=aY ht;constructor <;> simp[World.cell?,h2,ckU]
  | i+2=>simp[pX] at ht
 ·simp only[pX,bZ,bI,or_false] at ht
  rcases ht with rfl|rfl
  ·refine Wy (fun i x hx=>?_) s0
   match i with
   | 0=>obtain rfl:=aY hx;constructor <;> simp[World.cell?,h0]
   | 1=>obtain rfl:=aY hx;constructor <;> simp[World.cell?,h0]
   | 2=>obtain rfl:=aY hx;constructor <;> simp[World.cell?,h0]
   | i+3=>simp[Uf] at hx
  ·refine Wy (fun i x hx=>?_) s1
   match i with
   | 0=>obtain rfl:=aY hx;constructor <;> simp[World.cell?,h1]
   | 1=>obtain rfl:=aY hx;constructor <;> simp[World.cell?,h1]
   | i+2=>simp[ckU] at hx
 ·simp only[pX,bZ,bI,or_false] at ht
  rcases ht with rfl|rfl <;> simp[Uf,ckU]
theorem sK (w:World):Calls Tryz.prog 9 #[] w fun e w'=>(e=.returned (.slice (some ⟨w.heap.size+2,0,none⟩) 2 2)∧mf w' (fun q=>w.heap.size≤q∧q<w'.heap.size) (some ⟨w.heap.size+2,0,none⟩) (pX w.heap.size))∧Below w.heap.size w w':=by
 go_enter Tryz.func9,Tryz.ntmps9
 go_wp2_with (first|(go_at_call 25;refine (ajb _).mono ?_;rintro e w' ⟨rfl,rfl⟩)|(go_at_call 24;refine (afc _).mono ?_;rintro e w' ⟨rfl,rfl⟩))
 go_ret
 obtain⟨wa,ha⟩:∃ wa,wa=w.alloc (.cells #[.string ⟨#[97]⟩,.int .i64 1,.string ⟨#[98]⟩,.int .i64 1,.string ⟨#[115]⟩,.int .i64 2] 42):=⟨_,rfl⟩
 rw[←ha]
 have hsa:wa.heap.size=w.heap.size+1:=by rw[ha];simp
 have ha0:wa.heap[w.heap.size]?=some (.cells #[.string ⟨#[97]⟩,.int .i64 1,.string ⟨#[98]⟩,.int .i64 1,.string ⟨#[115]⟩,.int .i64 2] 42 (0,0)):=by rw[ha];exact aH w _
 have hba:Below w.heap.size w wa:=by rw[ha];exact (aG _ _).alloc (aF _) _
 obtain⟨wb,hb⟩:∃ wb,wb=wa.alloc (.cells #[.string ⟨#[97]⟩,.int .i64 1,.string ⟨#[99]⟩,.int .i64 1] 42):=⟨_,rfl⟩
 rw[←hb]
 have hsb:wb.heap.size=w.heap.size+2:=by rw[hb,World.size_alloc,hsa]
 have hb0:wb.heap[w.heap.size+1]?=some (.cells #[.string ⟨#[97]⟩,.int .i64 1,.string ⟨#[99]⟩,.int .i64 1] 42 (0,0)):=by rw[hb,←hsa];exact aH wa _
 have hbb:Below wa.heap.size wa wb:=by rw[hb];exact (aG _ _).alloc (aF _) _
 obtain⟨wc,hc⟩:∃ wc,wc=wb.alloc (.cells #[.string ⟨#[116]⟩,.slice (some ⟨w.heap.size,0,none⟩) 3 3,.string ⟨#[117]⟩,.slice (some ⟨w.heap.size+1,0,none⟩) 2 2] 66):=⟨_,rfl⟩
 have hsc:wc.heap.size=w.heap.size+3:=by rw[hc,World.size_alloc,hsb]
 have hc0:wc.heap[w.heap.size+2]?=some (.cells #[.string ⟨#[116]⟩,.slice (some ⟨w.heap.size,0,none⟩) 3 3,.string ⟨#[117]⟩,.slice (some ⟨w.heap.size+1,0,none⟩) 2 2] 66 (0,0)):=by rw[hc,←hsb];exact aH wb _
 have hbc:Below wb.heap.size wb wc:=by rw[hc];exact (aG _ _).alloc (aF _) _
 have key:=Zd (S:=fun q=>w.heap.size≤q∧q<wc.heap.size) (((hbc.block _ (by omega)).trans (hbb.block _ (by omega))).trans ha0) ((hbc.block _ (by omega)).trans hb0) hc0 ⟨by omega,by omega⟩ ⟨by omega,by omega⟩ ⟨by omega,by omega⟩
 have kb:=(hba.trans (hbb.mono (by omega))).trans (hbc.mono (by omega))
 rw[hc] at key kb
 first
  | exact⟨⟨by simp[hsa,hsb],key⟩,kb⟩
  | (simp only[hsa,hsb];exact⟨⟨rfl,key⟩,kb⟩)
  | skip
theorem E5 (s:ByteArray)(w:World):Calls Tryz.prog 7 #[.string s] w fun e w'=>(∃ (a:PA)(p:P),e=.returned (p.val a)∧kY w' (fun k=>w.heap.size≤k∧k<w'.heap.size) p a∧(p=gq∨TF p)∧∀ q,JC s q→p=q)∧Below w.heap.size w w':=by
 obtain⟨w1,dZ⟩:∃ w1,w1=w.alloc (.cells #[.int .i64 0,.string ⟨#[]⟩,.slice none 0 0,.slice none 0 0,.slice none 0 0,.slice none 0 0,.slice none 0 0,.slice none 0 0] 27):=⟨_,rfl⟩
 have HB1:Hid (Below w.heap.size w w1):=ae (by rw[dZ];exact (aG _ _).alloc (aF _) _)
 have hs1:w.heap.size<w1.heap.size:=by rw[dZ];simp
 have jJ:Hid (w1.heap[w.heap.size]?=some (.cells #[.int .i64 0,.string ⟨#[]⟩,.slice none 0 0,.slice none 0 0,.slice none 0 0,.slice none 0 0,.slice none 0 0,.slice none 0 0] 27 (0,0))):=ae (by rw[dZ];exact aH w _)
 have HW1:=ae dZ
 clear dZ
 go_enter Tryz.func7,Tryz.ntmps7
 go_upto_region 1 with (fail)
 rw[←HW1.o]
 go_wp2_with fail
 refine (MK s w1).mono ?_
 rintro e w2 ⟨⟨a,p,why,at_,rfl,hA,hp⟩,hb2⟩
 have HP:Hid ((p=gq∨TF p)∧∀ q,JC s q→p=q):=ae hp
 have HA:=ae hA
 have hs2:=hb2.size
 have HB2:=ae (HB1.o.trans (hb2.mono HB1.o.size))
 have iI:=ae ((hb2.block w.heap.size hs1).trans jJ.o)
 obtain⟨w3,ny⟩:∃ w3,w3=w2.alloc (.cells (P.bx p a) 27):=⟨_,rfl⟩
 have hb3:Below w2.heap.size w2 w3:=by rw[ny];exact (aG _ _).alloc (aF _) _
 have HN3:Hid (w3.heap[w2.heap.size]?=some (.cells (P.bx p a) 27 (0,0))):=ae (by rw[ny];exact aH w2 _)
 have HB3:=ae (HB2.o.trans (hb3.mono HB2.o.size))
 have nO:=ae ((hb3.block w.heap.size (by omega)).trans iI.o)
 have HA3:Hid (kY w3 (fun k=>w1.heap.size≤k∧k<w3.heap.size) p a):=ae ((hA.kept fun k hk=>hb3.block k hk.2).mono fun k hk=>⟨hk.1,aK hk.2 hb3.size⟩)
 have HW3:=ae ny
 clear hA hp hb2 ny hb3
 have HQ:Hid (∀ w',w'=uY w3 w.heap.size (.int .i64 p.k) (.string p.nm) (.slice a.ea p.ex.length a.ec) (.slice a.ca p.cols.length a.cc) (.slice a.la p.left.length a.lc) (.slice a.ra p.right.length a.rc) (.slice a.ga p.ag.length a.gc) (.slice a.ka p.kids.length a.kc)→(∃ (b:PA)(q:P),Ending.returned (.agg (P.bx p a))=.returned (q.val b)∧kY w' (fun k=>w.heap.size≤k∧k<w'.heap.size) q b∧(q=gq∨TF q)∧∀ r,JC s r→q=r)∧Below w.heap.size w w'):=ae (fun w' hw'=>by
  subst hw'
  exact⟨⟨a,p,rfl,(HA3.o.kept fun k hk=>jH (by have:=hk.1;omega)).mono fun k hk=>⟨by have:=hk.1;omega,by rw[mV];exact hk.2⟩,HP.o⟩,iq HB3.o (aF _)⟩)
 clear HP HA HA3
 simp only[P.bx,P.val] at HN3 HW3 HQ ⊢
 generalize p.k=xk at *
 generalize p.nm=JH at *
 generalize p.ex.length=x1 at *
 generalize p.cols.length=x2 at *
 generalize p.left.length=x3 at *
 generalize p.right.length=x4 at *
 generalize p.ag.length=x5 at *
 generalize p.kids.length=x6 at *
 obtain⟨ea,ec,ca,cc,la,lc,ra,rc,ga,gc,ka,kc⟩:=a
 simp only at HN3 HW3 HQ ⊢
 obtain⟨d0,d1,d2,d3,d4,d5,d6,d7,f0,f1,f2,f3,f4,f5,f6,f7⟩:=dO nO.o
 obtain⟨y0,y1,y2,y3,y4,y5,y6,y7,g0,g1,g2,g3,g4,g5,g6,g7⟩:=dO HN3.o
 go_upto_region 2 with (fail)
 rw[←HW3.o]
 go_wp2_with fail
 refine aJ (pz rfl rfl (gV nO.o)) rfl ?_
 exact HQ.o _ rfl
theorem WA (s:ByteArray)(w:World):Calls Tryz.prog 7 #[.string s] w fun e w'=>(∃ (a:PA)(p:P),e=.returned (p.val a)∧kY w' (fun k=>w.heap.size≤k∧k<w'.heap.size) p a∧(p=gq∨TF p))∧Below w.heap.size w w' :=
 (E5 s w).mono fun _ _ ⟨⟨a,p,h1,h2,h3,_⟩,hb⟩=>⟨⟨a,p,h1,h2,h3⟩,hb⟩
theorem Dp {w:World} {b:Nat} {cs:Array Value} {t:TypeId} (hb:w.heap[b]?=some (.cells cs t (0,0))) {j:Nat} {u:Value} (hj:cs.toList[j]?=some u):w.cell? ⟨b,j,none⟩=some u:=by
 simp only[World.cell?,hb]
 simpa using hj
theorem Ze {w:World} {S:Nat→Prop} {b:Nat} {p:P} {a:PA} {t:TypeId} (hb:w.heap[b]?=some (.cells (P.bx p a) t (0,0)))(hS:S b)(hA:kY w S p a):CE w S (some ⟨b,0,none⟩) [p]:=by
 have hone:∀ (i:Nat)(q:P),[p][i]?=some q→i=0∧q=p:=fun i q hq=>by
  cases i with
  | zero=>exact⟨rfl,by simpa using hq.symm⟩
  | succ i=>simp at hq
 refine .mk b 0 [p] (by simp) hS (fun _=>a) (fun i q hq j u hj=>?_) (fun i q hq=>?_) (fun i q hq=>?_)
 ·obtain⟨rfl,rfl⟩:=hone i q hq
  rw[Nat.zero_mul,Nat.zero_add]
  exact Dp hb hj
 ·obtain⟨rfl,rfl⟩:=hone i q hq
  exact hA.parts
 ·obtain⟨rfl,rfl⟩:=hone i q hq
  exact hA.kids
theorem zS (s:ByteArray):uG (gz s):=.mk _ _ _ _ _ (by decide) (by decide) (fun h=>absurd h (by decide)) (fun h=>absurd h (by decide))
theorem join_le:∀ l:List (List UInt8),(Lib.join l [32]).length≤(l.map (fun x=>x.length+1)).sum
 | []=>by simp[Lib.join]
 | [a]=>by simp[Lib.join]
 | a::b::l=>by
   have h:=join_le (b::l)
   have e:Lib.join (a::b::l) [32]=a++([32]++Lib.join (b::l) [32]):=by
    first
     | rfl
     | simp[Lib.join,List.intercalate,List.intersperse]
     | (unfold Lib.join List.intercalate;simp)
   rw[e,List.map_cons,List.sum_cons,aZ,aZ]
   have h1:([32]:List UInt8).length=1:=rfl
   omega
theorem Fb {p:P} (h:TF p):(jr (fD p)).length≤600:=by
 have:=h.size
 unfold uN at this
 simpa [ByteArray.size] using this
theorem Zg (n m:Nat)(nm:ByteArray):Gp (pX n) nm=Gp (pX m) nm:=by
 unfold Gp pX
 have e:∀ q:Nat,idx (DM.oM nm) [⟨⟨#[116]⟩,some ⟨q,0,none⟩,3,Uf⟩,⟨⟨#[117]⟩,some ⟨q+1,0,none⟩,2,ckU⟩] 0=if ((⟨#[116]⟩:ByteArray).toList==nm.toList)=true then 0 else if ((⟨#[117]⟩:ByteArray).toList==nm.toList)=true then 1 else -1:=fun q=>by
  simp only[idx,DM.oM]
  rfl
 rw[e n,e m]
 by_cases h1:((⟨#[116]⟩:ByteArray).toList==nm.toList)=true
 ·rw[if_pos h1];rfl
 ·rw[if_neg h1]
  by_cases h2:((⟨#[117]⟩:ByteArray).toList==nm.toList)=true
  ·rw[if_pos h2];rfl
  ·rw[if_neg h2];rfl
theorem Fe (n m:Nat):∀ p,gK (pX n) p=gK (pX m) p:=P.ind fun k nm ex cols left right ag kids ih=>by
 have e:kids.map (gK (pX n))=kids.map (gK (pX m)):=List.map_congr_left fun x hx=>ih x hx
 rw[gK,gK,pW,pW,e]
 unfold BP Lt
 rw[Zg n m]
theorem sN {w:World} {b:Nat} {u:Obj} (h:w.heap[b]?=some u):LT w b:=(aU.1 h).1
def Gv (acc:List C)(t:ByteArray):List C→ByteArray
 | []=>t
 | c::r=>Gv (acc++[c]) (if fO acc c.nm=true∧t.size=0 then c.nm else t) r
def wB (acc:List C):List C→uZ
 | []=>gQ acc
 | c::r=>if fO acc c.nm=true then kQ 21 c.nm else wB (acc++[c]) r
theorem ML:∀ (r acc:List C)(t:ByteArray),t.size≠0→Gv acc t r=t
 | [],_,_,_=>rfl
 | c::r,acc,t,h=>by rw[Gv,if_neg (fun x=>h x.2)];exact ML r _ t h
theorem MM:∀ (r acc:List C),(∀ c∈r,c.nm.size≠0)→((Gv acc ⟨#[]⟩ r).size=0→wB acc r=gQ (acc++r))∧((Gv acc ⟨#[]⟩ r).size≠0→wB acc r=kQ 21 (Gv acc ⟨#[]⟩ r))
 | [],acc,_=>⟨fun _=>by rw[wB,List.append_nil],fun h=>absurd rfl h⟩
 | c::r,acc,hc=>by
   rw[Gv,wB]
   by_cases hf:fO acc c.nm=true
   ·rw[if_pos ⟨hf,rfl⟩,if_pos hf,ML r _ _ (hc c (bH ..))]
    exact⟨fun h=>absurd h (hc c (bH ..)),fun _=>rfl⟩
   ·rw[if_neg (fun x=>hf x.1),if_neg hf]
    have:=MM r (acc++[c]) fun x hx=>hc x (bG _ hx)
    rw[List.append_assoc] at this
    exact this
theorem rF {α:Type} {p:α→Bool}:∀ (l:List α)(k:Nat)(x:α),x∈l→p x=true→0≤idx p l k
 | [],_,x,h,_=>by cases h
 | y::l,k,x,h,hp=>by
   rw[idx]
   split
   ·omega
   ·rename_i hy
    rcases bZ.1 h with rfl|h
    ·exact absurd hp hy
    ·exact rF l (k+1) x h hp
theorem ui {l:List C} {c:C} (h:c∈l):fO l c.nm=true:=by
 unfold fO
 exact decide_eq_true (rF l 0 c h (by simp[C.oM]))
theorem yj (c:C)(l:List C):gU (c::l) c.nm=0:=by
 have e:idx (C.oM c.nm) (c::l) 0=0:=by rw[idx,if_pos (by simp[C.oM])];rfl
 unfold gU
 rw[e]
 rfl
theorem MN:∀ (l pre:List C),gp pre l=0→∀ x∈l,∀ p∈pre,(p.nm.toList==x.nm.toList)=false
 | [],_,_,x,hx,_,_=>by cases hx
 | c::l,pre,h,x,hx,p,hp=>by
   rw[gp] at h
   split at h
   ·exact absurd h (by decide)
   ·split at h
    ·exact absurd h (by decide)
    ·rename_i h2
     rcases bZ.1 hx with rfl|hx
     ·cases hq:p.nm.toList==x.nm.toList
      ·rfl
      ·refine absurd ?_ h2
       unfold fO
       exact decide_eq_true (rF pre 0 p hp (by simpa [C.oM] using hq))
     ·exact MN l (pre++[c]) h x hx p (cu.2 (.inl hp))
theorem QJ {right:List ByteArray}:∀ (r acc:List C),(∀ c∈r,yS right c.nm=false)→kE right acc r=wB acc r
 | [],acc,_=>by rw[kE,wB]
 | c::r,acc,h=>by
   rw[kE,wB,if_neg (by rw[h c (bH ..)];decide)]
   split
   ·rfl
   ·exact QJ r _ fun x hx=>h x (bG _ hx)
theorem TK {a0 b0:C} {a1 bt:List C} (hb:gp [] (b0::bt)=0):qU (a0::a1) (b0::bt) [a0.nm] [b0.nm]=if a0.k=b0.k then wB (a0::a1) bt else ([],22,a0.nm):=by
 have hp:ve (a0::a1) (b0::bt) [a0.nm] [b0.nm] 0=if a0.k=b0.k then (0,⟨#[]⟩) else (22,a0.nm):=by
  unfold ve
  rw[show ([a0.nm]:List ByteArray).getD 0 ⟨#[]⟩=a0.nm from rfl,show ([b0.nm]:List ByteArray).getD 0 ⟨#[]⟩=b0.nm from rfl,ui (bH ..),ui (bH ..),yj,yj]
  rw[if_neg (by decide),if_neg (by decide),if_neg (by simp[yS]),if_neg (by simp[yS])]
  rfl
 have hs:kE [b0.nm] (a0::a1) (b0::bt)=wB (a0::a1) bt:=by
  rw[kE,if_pos (by simp[yS])]
  refine QJ bt _ fun c hc=>?_
  have h2:gp [b0] bt=0:=by
   rw[gp] at hb
   split at hb
   ·exact absurd hb (by decide)
   ·split at hb
    ·exact absurd hb (by decide)
    ·exact hb
  have:=MN bt [b0] h2 c hc b0 (bH ..)
  simp only[yS,List.any_cons,List.any_nil,Bool.or_false]
  exact this
 unfold qU
 rw[if_neg (by simp),show ([a0.nm]:List ByteArray).length=1 from rfl,mr,hp,mr]
 by_cases hk:a0.k=b0.k
 ·rw[if_pos hk,if_pos hk,if_pos rfl,if_pos rfl]
  exact hs
 ·rw[if_neg hk,if_neg hk,if_neg (show ¬((22:Int)=0) by decide),if_neg (show ¬((22:Int)=0) by decide)]
def IA:ByteArray:=⟨#[122,122]⟩
def MO:Ag:=⟨IA,⟨#[99,111,117,110,116]⟩,⟨#[]⟩⟩
theorem PQ {a0:C} {a1:List C} (h:fO (a0::a1) IA=false):jB (a0::a1) [MO] [] [a0.nm]=([a0,⟨IA,1⟩],0,⟨#[]⟩):=by
 have h0:fO [a0] IA=false:=by
  cases hq:fO [a0] IA
  ·rfl
  ·obtain⟨h1,h2⟩:=Dq hq
   rw[df.1 h1] at h2
   rw[←h2,ui (bH ..)] at h
   cases h
 rw[jB,ui (bH ..),if_neg (by decide),show fO [] a0.nm=false from rfl,if_neg (by decide),yj,jB,iW]
 rw[show (([]:List C)++[kU (a0::a1) 0])=[a0] from rfl,show MO.nm=IA from rfl,h0,if_neg (by decide),if_pos (by first|rfl|decide|kernel_rfl),iW]
 rfl
def xy (p q:P)(na nb:ByteArray):P:=.mk 4 ⟨#[]⟩ [] [] [na] [nb] [] [p,q]
def Gw (p:P)(na:ByteArray):P:=.mk 7 ⟨#[]⟩ [] [] [na] [] [MO] [p]
theorem TL {D:List DM} {p q:P} (hp:(gK D p).2.1=0)(hq:(gK D q).2.1=0)(na nb:ByteArray):gK D (xy p q na nb)=qU (gK D p).1 (gK D q).1 [na] [nb]:=by
 rw[xy,gK,xw,xw,xw,BP,badR,if_pos hp,badR,if_pos hq,badR]
 rfl
theorem WE {D:List DM} {p:P} (hp:(gK D p).2.1=0)(na:ByteArray):gK D (Gw p na)=jB (gK D p).1 [MO] [] [na]:=by
 rw[Gw,gK,xw,xw,BP,badR,if_pos hp,badR]
 rfl
theorem nZ {s:ByteArray} (h:nameB s=true):s.size≠0∧s.size≤12:=by
 simp only[nameB,Bool.and_eq_true,decide_eq_true_eq] at h
 refine⟨fun h0=>?_,h.1.1.2⟩
 have h1:=h.1.1.1
 have e:s.toList=[]:=bF (by rw[ByteArray.toList_eq,Array.length_toList];exact h0)
 rw[e] at h1
 exact absurd h1 (by decide)
theorem TM {p q:P} (hp:jS p)(hq:jS q) {na nb:ByteArray} (ha:nameB na=true)(hb:nameB nb=true):jS (xy p q na nb) :=
 .mk _ _ _ _ _ _ _ _ (by decide) (by decide) (fun e he=>by cases he) (fun e=>absurd e (by decide)) (fun e=>absurd e (by decide)) (by simp) (fun x hx=>by cases hx) (fun x hx=>by cases hx) rfl (fun x hx=>by
  have h1:=nZ ha
  have h2:=nZ hb
  simp only[List.cons_append,List.nil_append,bZ,bI,or_false] at hx
  rcases hx with rfl|rfl <;> omega) (by simp) (by simp) (by simp) (by simp) (fun x hx=>by
  simp only[bZ,bI,or_false] at hx
  rcases hx with rfl|rfl
  ·exact hp
  ·exact hq)
theorem Zh:nameB IA=true:=by kernel_rfl
theorem WG {p:P} (hp:jS p) {na:ByteArray} (ha:nameB na=true):jS (Gw p na) :=
 .mk _ _ _ _ _ _ _ _ (by decide) (by decide) (fun e he=>by cases he) (fun e=>absurd e (by decide)) (fun e=>absurd e (by decide)) (by simp) (fun x hx=>by cases hx) (fun x hx=>by
  obtain rfl:x=MO:=by simpa using hx
  exact Zh) rfl (fun x hx=>by
  have h1:=nZ ha
  simp only[List.append_nil,bZ,bI,or_false] at hx
  subst hx
  omega) (by simp) (by simp) (by simp) (by simp) (fun x hx=>by
  obtain rfl:x=p:=by simpa using hx
  exact hp)
theorem Ff (s:ByteArray):(jr (gz s)).length=s.size:=by rw[gz,jr];rfl
theorem Bi (s:ByteArray)(hs:s.size≤12):uG (jM [gz s])∧(jr (jM [gz s])).length≤20:=by
 refine⟨.mk _ _ _ _ _ (by decide) (by decide) (fun _=>⟨by simp,?_⟩) (fun _ x hx=>?_),?_⟩
 ·refine aS (join_le _) ?_
  simp only[kX,List.map_cons,List.map_nil,List.sum_cons,List.sum_nil,Ff]
  omega
 ·obtain rfl:x=gz s:=by simpa using hx
  exact zS _
 ·have e:jr (jM [gz s])=40::(Lib.join (kX [gz s]) [32]++[41]):=by rw[jM,jr];rfl
  have:=join_le (kX [gz s])
  simp only[kX,List.map_cons,List.map_nil,List.sum_cons,List.sum_nil,Ff] at this
  rw[e,bf,aZ,cZ]
  simp only[kX]
  omega
theorem WH {p q:P} (hp:uG (fD p))(hq:uG (fD q))(sp:(jr (fD p)).length≤600)(sq:(jr (fD q)).length≤600) {na nb:ByteArray} (ha:na.size≤12)(hb:nb.size≤12):uG (fD (xy p q na nb)):=by
 have e:fD (xy p q na nb)=jM [gz ⟨oV.toArray⟩,jM [gz na],jM [gz nb],fD p,fD q]:=by
  rw[xy,fD,kK,kK,kK,if_neg (by decide)]
  rfl
 rw[e]
 obtain⟨a1,a2⟩:=Bi na ha
 obtain⟨b1,b2⟩:=Bi nb hb
 refine .mk _ _ _ _ _ (by decide) (by decide) (fun _=>⟨by simp,?_⟩) (fun _ x hx=>?_)
 ·refine aS (join_le _) ?_
  have h1:(jr (gz ⟨oV.toArray⟩)).length=4:=by rw[gz,jr];rfl
  simp only[kX,List.map_cons,List.map_nil,List.sum_cons,List.sum_nil,h1]
  omega
 ·simp only[bZ,bI,or_false] at hx
  rcases hx with rfl|rfl|rfl|rfl|rfl
  ·exact zS _
  ·exact a1
  ·exact b1
  ·exact hp
  ·exact hq
theorem Zi {p:P} (hp:uG (fD p))(sp:(jr (fD p)).length≤600) {na:ByteArray} (ha:na.size≤12):uG (fD (Gw p na)):=by
 have e:fD (Gw p na)=jM [gz ⟨kZ.toArray⟩,jM [gz na],jM [gz IA,gz ⟨ig.toArray⟩],fD p]:=by
  have h:uH MO=[IA,⟨ig.toArray⟩]:=by unfold uH;rw[if_pos (by kernel_rfl)];rfl
  rw[Gw,fD,kK,kK,if_neg (by decide)]
  show jM (gz ⟨kZ.toArray⟩::(([jM [gz na],iO (uH MO)]:List T)++[fD p]))=_
  rw[h]
  rfl
 rw[e]
 obtain⟨a1,a2⟩:=Bi na ha
 have g:uG (jM [gz IA,gz ⟨ig.toArray⟩]):=by
  refine .mk _ _ _ _ _ (by decide) (by decide) (fun _=>⟨by simp,?_⟩) (fun _ x hx=>?_)
  ·refine aS (join_le _) ?_
   simp only[kX,List.map_cons,List.map_nil,List.sum_cons,List.sum_nil,Ff]
   decide
  ·simp only[bZ,bI,or_false] at hx
   rcases hx with rfl|rfl <;> exact zS _
 have g2:(jr (jM [gz IA,gz ⟨ig.toArray⟩])).length=10:=by kernel_rfl
 refine .mk _ _ _ _ _ (by decide) (by decide) (fun _=>⟨by simp,?_⟩) (fun _ x hx=>?_)
 ·refine aS (join_le _) ?_
  have h1:(jr (gz ⟨kZ.toArray⟩)).length=5:=by rw[gz,jr];rfl
  simp only[kX,List.map_cons,List.map_nil,List.sum_cons,List.sum_nil,h1,g2]
  omega
 ·simp only[bZ,bI,or_false] at hx
  rcases hx with rfl|rfl|rfl|rfl
  ·exact zS _
  ·exact a1
  ·exact g
  ·exact hp
def P.bxq (p q:P)(a a2:PA):Array Value:=#[.int .i64 p.k,.string p.nm,.slice a.ea p.ex.length a.ec,.slice a.ca p.cols.length a.cc,.slice a.la p.left.length a.lc,.slice a.ra p.right.length a.rc,.slice a.ga p.ag.length a.gc,.slice a.ka p.kids.length a.kc,.int .i64 q.k,.string q.nm,.slice a2.ea q.ex.length a2.ec,.slice a2.ca q.cols.length a2.cc,.slice a2.la q.left.length a2.lc,.slice a2.ra q.right.length a2.rc,.slice a2.ga q.ag.length a2.gc,.slice a2.ka q.kids.length a2.kc]
theorem acr {w:World} {S:Nat→Prop} {b:Nat} {p q:P} {a a2:PA} {t:TypeId} (hb:w.heap[b]?=some (.cells (P.bxq p q a a2) t (0,0)))(hS:S b)(hA:kY w S p a)(hA2:kY w S q a2):CE w S (some ⟨b,0,none⟩) [p,q]:=by
 refine .mk b 0 [p,q] (by simp) hS (fun i=>if i=0 then a else a2) (fun i x hx j u hj=>?_) (fun i x hx=>?_) (fun i x hx=>?_)
 ·refine Dp hb ?_
  match i,hx with
  | 0,hx =>
    obtain rfl:p=x:=by simpa using hx
    match j,hj with
    | 0,hj=>exact hj
    | 1,hj=>exact hj
    | 2,hj=>exact hj
    | 3,hj=>exact hj
    | 4,hj=>exact hj
    | 5,hj=>exact hj
    | 6,hj=>exact hj
    | 7,hj=>exact hj
    | j+8,hj=>simp[P.cs] at hj
  | 1,hx =>
    obtain rfl:q=x:=by simpa using hx
    match j,hj with
    | 0,hj=>exact hj
    | 1,hj=>exact hj
    | 2,hj=>exact hj
    | 3,hj=>exact hj
    | 4,hj=>exact hj
    | 5,hj=>exact hj
    | 6,hj=>exact hj
    | 7,hj=>exact hj
    | j+8,hj=>simp[P.cs] at hj
  | i+2,hx=>simp at hx
 ·match i,hx with
  | 0,hx=>obtain rfl:p=x:=by simpa using hx
          exact hA.parts
  | 1,hx=>obtain rfl:q=x:=by simpa using hx
          exact hA2.parts
  | i+2,hx=>simp at hx
 ·match i,hx with
  | 0,hx=>obtain rfl:p=x:=by simpa using hx
          exact hA.kids
  | 1,hx=>obtain rfl:q=x:=by simpa using hx
          exact hA2.kids
  | i+2,hx=>simp at hx
theorem Fg {w:World} {S:Nat→Prop} {b:Nat} {s:ByteArray} {t:TypeId} (hb:w.heap[b]?=some (.cells #[.string s] t (0,0)))(hS:S b):Lies w S (some ⟨b,0,none⟩) (strs [s]) :=
 .inr ⟨b,0,rfl,hS,fun j u hj=>by rw[Nat.zero_add];exact Dp hb hj⟩
def Z9 (b1 b2 b3:Nat):PA:=⟨none,0,none,0,some ⟨b1,0,none⟩,1,some ⟨b2,0,none⟩,1,none,0,some ⟨b3,0,none⟩,2⟩
theorem Zj {w:World} {S:Nat→Prop} {p q:P} {a a2:PA} {na nb:ByteArray} {b1 b2 b3:Nat} {t1 t2 t3:TypeId} (hA:kY w S p a)(hA2:kY w S q a2)(h1:w.heap[b1]?=some (.cells #[.string na] t1 (0,0)))(h2:w.heap[b2]?=some (.cells #[.string nb] t2 (0,0)))
 (h3:w.heap[b3]?=some (.cells (P.bxq p q a a2) t3 (0,0)))(s1:S b1)(s2:S b2)(s3:S b3):kY w S (xy p q na nb) (Z9 b1 b2 b3) :=
 ⟨⟨.nil none,.nil_ _ _ _,Fg h1 s1,Fg h2 s2,.nil_ _ _ _,aX _,aX _,⟨by show 1≤9223372036854775807;decide,aF 1⟩,⟨by show 1≤9223372036854775807;decide,aF 1⟩,aX _⟩,acr h3 s3 hA hA2⟩
def afe (b1 b2 b3:Nat):PA:=⟨none,0,none,0,some ⟨b1,0,none⟩,1,none,0,some ⟨b2,0,none⟩,1,some ⟨b3,0,none⟩,1⟩
theorem acs {w:World} {S:Nat→Prop} {p:P} {a:PA} {na:ByteArray} {b1 b2 b3:Nat} {t1 t2 t3:TypeId} (hA:kY w S p a)(h1:w.heap[b1]?=some (.cells #[.string na] t1 (0,0)))(h2:w.heap[b2]?=some (.cells #[.string ⟨#[122,122]⟩,.string ⟨#[99,111,117,110,116]⟩,.string ⟨#[]⟩] t2 (0,0)))
 (h3:w.heap[b3]?=some (.cells (P.bx p a) t3 (0,0)))(s1:S b1)(s2:S b2)(s3:S b3):kY w S (Gw p na) (afe b1 b2 b3) :=
 ⟨⟨.nil none,.nil_ _ _ _,Fg h1 s1,.nil_ _ _ _,.inr ⟨b2,0,rfl,s2,fun j u hj=>by rw[Nat.zero_add];exact Dp h2 hj⟩,aX _,aX _,⟨by show 1≤9223372036854775807;decide,aF 1⟩,⟨aX _,aX _⟩,by show 1≤9223372036854775807;decide⟩,Ze h3 s3 hA⟩
theorem BX {n:Nat} {p:P} {w w':World} {e:Ending} (hp:p=gq∨TF p)(h:uB (pX n) p w e w'):∃ (A:Option Addr)(m c:Nat)(why:Int)(nm:ByteArray),e=.returned (.tuple #[.slice A m c,.int .i64 why,.string nm]) ∧
 (why=0→TF p∧(gK (pX 0) p).2.1=0∧∃ (x0:C)(xs:List C),(gK (pX 0) p).1=x0::xs∧m=xs.length+1∧xs.length≤5∧m≤c∧gp [] (x0::xs)=0∧iY w' (fun q=>w.heap.size≤q∧q<w'.heap.size) A (x0::xs)):=by
 obtain⟨A,m,c,why,nm,he,h⟩:=h
 refine⟨A,m,c,why,nm,he,fun h0=>?_⟩
 rcases h with⟨_,h2,h3,h4,h5,h6⟩|⟨h1,_⟩|⟨h1,_⟩
 ·have hof:=hp.resolve_left h2
  rw[Fe n 0] at h3 h4 h6
  have hce:jk (gK (pX 0) p).1=0:=PO (fun d hd=>by
   simp only[pX,bZ,bI,or_false] at hd
   rcases hd with rfl|rfl <;> kernel_rfl) p hof.good h3
  have h7:=Lu (ug 0) p
  have hrr:=E8 hce
  generalize hl:(gK (pX 0) p).1=l at *
  cases l with
  | nil=>exact absurd hce (by decide)
  | cons x0 xs =>
    have h8:xs.length+1≤6:=h7
    exact⟨hof,h3,x0,xs,rfl,h4,by omega,h5,hrr,h6⟩
 ·rw[h0] at h1;exact absurd h1 (by decide)
 ·exact absurd h0 h1
theorem WS:JC WI o7:=⟨_,Zk,QK _ _ _,WL _ _ _,WN.1⟩
theorem WT:JC WJ qJ:=⟨_,Zl,Zm,WM,WO.1⟩
theorem Zn:ExP o7:=⟨WQ,acw,WN⟩
theorem Zo:ExP qJ:=⟨WR,acx,WO⟩
theorem Zp (n:Nat):gK (pX n) o7=(Uf,0,⟨#[]⟩):=by kernel_rfl
theorem Zq (n:Nat):gK (pX n) qJ=([],21,⟨#[97]⟩):=by kernel_rfl
theorem TN {n:Nat} {w w':World} {e:Ending} (h:uB (pX n) o7 w e w'):∃ (A:Option Addr)(c:Nat)(nm:ByteArray),e=.returned (.tuple #[.slice A 3 c,.int .i64 0,.string nm])∧iY w' (fun q=>w.heap.size≤q∧q<w'.heap.size) A Uf:=by
 obtain⟨A,m,c,why,nm,he,h⟩:=h
 rw[Zp] at h
 rcases h with⟨h1,_,_,h4,_,h6⟩|⟨_,_,h⟩|⟨h1,_,_,h4,_⟩
 ·have h4':m=3:=h4
  subst h1
  subst h4'
  exact⟨A,c,nm,he,h6⟩
 ·exact absurd Zn h
 ·exact absurd h4 h1
theorem TQ {n:Nat} {w w':World} {e:Ending} (h:uB (pX n) qJ w e w'):∃ (A:Option Addr)(m c:Nat),e=.returned (.tuple #[.slice A m c,.int .i64 21,.string ⟨#[97]⟩]):=by
 obtain⟨A,m,c,why,nm,he,h⟩:=h
 rw[Zq] at h
 rcases h with⟨h1,_,h3,_⟩|⟨_,_,h⟩|⟨_,_,_,h4,h5⟩
 ·exact absurd h3 (by decide)
 ·exact absurd Zo h
 ·have h4':why=21:=h4
  have h5':nm=⟨#[97]⟩:=h5
  subst h4'
  subst h5'
  exact⟨A,m,c,he⟩
theorem Zr {w:World} {b:Nat} {t:TypeId} (h:w.heap[b]?=some (.cells #[.string ⟨#[97]⟩,.int .i64 1,.string ⟨#[98]⟩,.int .i64 1,.string ⟨#[115]⟩,.int .i64 2] t (0,0))):l9 w w.heap.size (some ⟨b,0,none⟩) Uf:=by
 refine .inr ⟨b,0,rfl,(aU.1 h).1,fun i c hc=>?_⟩
 match i,hc with
 | 0,hc=>obtain rfl:=aY hc;constructor <;> simp[World.cell?,h]
 | 1,hc=>obtain rfl:=aY hc;constructor <;> simp[World.cell?,h]
 | 2,hc=>obtain rfl:=aY hc;constructor <;> simp[World.cell?,h]
 | i+3,hc=>simp[Uf] at hc
theorem oh (w:World)(hE:Env w):Calls Tryz.prog 10 #[] w fun e w'=>e=.returned (.bool true)∧Below w.heap.size w w':=by
 have HE:=ae hE
 clear hE
 go_enter Tryz.func10,Tryz.ntmps10
 go_wp2_with fail
 refine (E5 WI _).mono ?_
 rintro e w1 ⟨⟨a,p,rfl,hA,hp,hx⟩,hb1⟩
 have e1:=hx o7 WS
 subst e1
 have HA1:=ae hA
 have X8:=ae (hp.resolve_left WQ)
 have HB1:=ae hb1
 obtain⟨pv,hpv⟩:∃ v,v=o7.val a:=⟨_,rfl⟩
 have Qe:Hid (∀ w',Below w1.heap.size w1 w'→mf w' (fun q=>w1.heap.size≤q∧q<w'.heap.size) (some ⟨w1.heap.size+2,0,none⟩) (pX w1.heap.size)→Calls Tryz.prog 8 #[pv,.slice (some ⟨w1.heap.size+2,0,none⟩) 2 2] w' fun e w2=>uB (pX w1.heap.size) o7 w' e w2∧Below w'.heap.size w' w2):=ae (fun w' hb hD=>by
  rw[hpv]
  exact lT (pX w1.heap.size) (by show 2≤1000;decide) (ug _) (Bh _) o7 (.inr ⟨X8.o.good,X8.o.prn⟩) a w' ((HA1.o.kept fun k hk=>hb.block k hk.2).mono fun k hk=>aK hk.2 hb.size) (HE.o.low (HB1.o.trans (hb.mono HB1.o.size))) (some ⟨w1.heap.size+2,0,none⟩) 2 (by show 2≤2;decide) (hD.mono fun k hk=>hk.2))
 rw[←hpv]
 clear hA hp hx hb1 hpv HA1 X8
 go_wp2_with fail
 refine (sK w1).mono ?_
 rintro e w2 ⟨⟨rfl,hD⟩,hb2⟩
 have HC2:=ae (Qe.o w2 hb2 hD)
 have HB2:=ae (HB1.o.trans (hb2.mono HB1.o.size))
 clear hD hb2 Qe
 go_wp2_with fail
 refine (HC2.o).mono ?_
 rintro e w3 ⟨hO,hb3⟩
 obtain⟨A,c,nm,rfl,hR⟩:=TN hO
 have HR3:=ae hR
 have HB3:=ae (HB2.o.trans (hb3.mono HB2.o.size))
 clear hO hR hb3 HC2
 go_wp2_with fail
 refine (E5 WJ _).mono ?_
 rintro e w4 ⟨⟨a,p,rfl,hA,hp,hx⟩,hb4⟩
 have e1:=hx qJ WT
 subst e1
 have HA1:=ae hA
 have X8:=ae (hp.resolve_left WR)
 have HB4:=ae (HB3.o.trans (hb4.mono HB3.o.size))
 have VF:=ae hb4
 obtain⟨pv',hpv⟩:∃ v,v=qJ.val a:=⟨_,rfl⟩
 have Qe:Hid (∀ w',Below w4.heap.size w4 w'→mf w' (fun q=>w4.heap.size≤q∧q<w'.heap.size) (some ⟨w4.heap.size+2,0,none⟩) (pX w4.heap.size)→Calls Tryz.prog 8 #[pv',.slice (some ⟨w4.heap.size+2,0,none⟩) 2 2] w' fun e w2=>uB (pX w4.heap.size) qJ w' e w2∧Below w'.heap.size w' w2):=ae (fun w' hb hD=>by
  rw[hpv]
  exact lT (pX w4.heap.size) (by show 2≤1000;decide) (ug _) (Bh _) qJ (.inr ⟨X8.o.good,X8.o.prn⟩) a w' ((HA1.o.kept fun k hk=>hb.block k hk.2).mono fun k hk=>aK hk.2 hb.size) (HE.o.low (HB4.o.trans (hb.mono HB4.o.size))) (some ⟨w4.heap.size+2,0,none⟩) 2 (by show 2≤2;decide) (hD.mono fun k hk=>hk.2))
 rw[←hpv]
 clear hA hp hx hb4 hpv HA1 X8
 go_wp2_with fail
 refine (sK w4).mono ?_
 rintro e w5 ⟨⟨rfl,hD⟩,hb5⟩
 have HC2:=ae (Qe.o w5 hb5 hD)
 have jA:=ae (HB4.o.trans (hb5.mono HB4.o.size))
 have tV:=ae (VF.o.trans (hb5.mono VF.o.size))
 clear hD hb5 Qe
 go_wp2_with fail
 refine (HC2.o).mono ?_
 rintro e w6 ⟨hO,hb6⟩
 obtain⟨A',n',c',rfl⟩:=TQ hO
 have kD:=ae (jA.o.trans (hb6.mono jA.o.size))
 have afg:=ae (tV.o.trans (hb6.mono tV.o.size))
 clear hO hb6 HC2
 obtain⟨w7,CU⟩:∃ w7,w7=w6.alloc (.cells #[.string ⟨#[97]⟩,.int .i64 1,.string ⟨#[98]⟩,.int .i64 1,.string ⟨#[115]⟩,.int .i64 2] 42):=⟨_,rfl⟩
 have hb7:Below w6.heap.size w6 w7:=by rw[CU];exact (aG _ _).alloc (aF _) _
 have hx7:w7.heap[w6.heap.size]?=some (.cells #[.string ⟨#[97]⟩,.int .i64 1,.string ⟨#[98]⟩,.int .i64 1,.string ⟨#[115]⟩,.int .i64 2] 42 (0,0)):=by rw[CU];exact aH w6 _
 have afh:=ae (afg.o.trans (hb7.mono afg.o.size))
 have Dk:=ae (kD.o.trans (hb7.mono kD.o.size))
 have HK:Hid (Calls Tryz.prog 12 #[.slice A 3 c,.slice (some ⟨w6.heap.size,0,none⟩) 3 3] w7 fun e w'=>e=.returned (.bool true)∧Below w7.heap.size w7 w'):=ae (rG A (some ⟨w6.heap.size,0,none⟩) c 3 Uf (by decide) w7 ((HR3.o.kept fun g hg=>afh.o.block g hg.2).to fun g hg=>aK hg.2 afh.o.size) (Zr hx7))
 have HW7:=ae CU
 clear CU hb7 hx7
 go_wp2_with fail
 refine (afc w6).mono ?_
 rintro e w8 ⟨rfl,hw8⟩
 have e8:w8=w7:=hw8.symm.trans HW7.o.symm
 subst e8
 clear hw8
 go_wp2_with fail
 refine (HK.o).mono ?_
 rintro e w9 ⟨rfl,QY⟩
 have HB9:=ae (Dk.o.trans (QY.mono Dk.o.size))
 clear QY
 go_wp2_with fail
 go_ret
 exact⟨rfl,HB9.o⟩
theorem sO {w w':World} {b:Nat} {o:Obj} (h:w.heap[b]?=some o)(hb:Below w.heap.size w w'):w'.heap[b]?=some o:=(hb.block b (aU.1 h).1).trans h
def JR (R:uZ)(w:World)(B:Nat)(A:Option Addr)(n c:Nat)(why:Int)(nm:ByteArray):Prop :=
 (why=0∧R.2.1=0∧n=R.1.length∧n≤c∧iY w (fun q=>B≤q∧q<w.heap.size) A R.1)∨why=12∨(why≠0∧why=R.2.1∧nm=R.2.2)
theorem MR {n B:Nat} {p:P} {R:uZ} {w w':World} {e:Ending} (h:uB (pX n) p w e w')(hR:gK (pX n) p=R)(hB:B≤w.heap.size):∃ (A:Option Addr)(m c:Nat)(why:Int)(nm:ByteArray),e=.returned (.tuple #[.slice A m c,.int .i64 why,.string nm])∧JR R w' B A m c why nm:=by
 obtain⟨A,m,c,why,nm,he,h⟩:=h
 rw[hR] at h
 refine⟨A,m,c,why,nm,he,?_⟩
 rcases h with⟨h1,_,h3,h4,h5,h6⟩|⟨h1,_⟩|⟨h1,_,_,h4,h5⟩
 ·exact .inl ⟨h1,h3,h4,h5,h6.mono fun q hq=>⟨aS hB hq.1,hq.2⟩⟩
 ·exact .inr (.inl h1)
 ·exact .inr (.inr ⟨h1,h4,h5⟩)
theorem WX {w:World} {b o:Nat} {c:C} {l:List C} (h:JO w b o (c::l)):JO w b (o+2) l:=fun i x hx=>by
 have:=h (i+1) x (by simpa using hx)
 rw[show o+(i+1)*2=o+2+i*2 from by omega] at this
 exact this
theorem PX {w:World} {b o B c:Nat} {x:C} {l:List C} {n:Nat} (h:JO w b o (x::l))(hb:b<B)(hn:l.length=n)(hc:n+1≤c):Reads w B 2 (if c=1 then some ⟨b,o,none⟩ else some ⟨b,o+2,none⟩) n (iM l):=by
 by_cases h1:c=1
 ·have h0:l=[]:=bF (by omega)
  subst h0
  subst hn
  exact Reads.none_
 ·rw[if_neg h1,←hn]
  exact iY.reads (S:=fun k=>k=b) (.inr ⟨b,o+2,rfl,rfl,WX h⟩) (fun k hk=>by rw[hk];exact hb)
theorem MV:∀ (l acc:List C)(t:ByteArray)(c:C),Gv acc t (l++[c])=if fO (acc++l) c.nm=true∧(Gv acc t l).size=0 then c.nm else Gv acc t l
 | [],acc,t,c=>by rw[List.nil_append,Gv,Gv,Gv,List.append_nil]
 | x::l,acc,t,c=>by
   rw[List.cons_append,Gv,MV l,Gv,List.append_assoc]
   rfl
theorem WY {vs us:List C} {k:Nat} {c:C} (h:us[k]?=some c):Gv vs ⟨#[]⟩ (us.take (k+1))=if fO (vs++us.take k) c.nm=true∧(Gv vs ⟨#[]⟩ (us.take k)).size=0 then c.nm else Gv vs ⟨#[]⟩ (us.take k):=by
 rw[List.take_add_one,h]
 exact MV _ _ _ _
theorem TT {v0:C} {vs us:List C} {n k:Nat} (h:vs.length=n):((v0::vs)++us).take (n+1+k)=(v0::vs)++us.take k:=by
 have h1:(v0::vs).length=n+1:=by rw[bf,h]
 rw[List.take_append,h1,bJ (by omega),show n+1+k-(n+1)=k from by omega]
theorem PY {R:uZ} {w:World} {B:Nat} {A:Option Addr} {n c:Nat} {y:Int} {m:ByteArray} (h:JR R w B A n c y m)(h12:y≠12)(hb:R.2.1≠0):y=R.2.1∧m=R.2.2:=by
 rcases h with⟨_,h,_⟩|h|⟨_,h1,h2⟩
 ·exact absurd h hb
 ·exact absurd h h12
 ·exact⟨h1,h2⟩
theorem aac {R:uZ} {w:World} {B:Nat} {A:Option Addr} {n c:Nat} {y:Int} {m:ByteArray} (h:JR R w B A n c y m)(h12:y≠12)(hb:R.2.1=0):y=0∧n=R.1.length∧n≤c∧iY w (fun q=>B≤q∧q<w.heap.size) A R.1:=by
 rcases h with⟨h0,_,h1,h2,h3⟩|h|⟨h0,h1,_⟩
 ·exact⟨h0,h1,h2,h3⟩
 ·exact absurd h h12
 ·exact absurd (h1.trans hb) h0
theorem FI {l:List C} (h:6<l.length):gQ l=kQ 23 ⟨#[]⟩:=by
 unfold gQ
 rw[if_pos (.inr h)]
theorem MW {l:List C} (h0:l.length≠0)(h:¬6<l.length):gQ l=(l,0,⟨#[]⟩):=by
 unfold gQ
 rw[if_neg (fun x=>x.elim h0 h)]
theorem Zv {w:World} {b:Nat} {c:C} {t:TypeId} (h:w.heap[b]?=some (.cells #[.string c.nm,.int .i64 c.k,.string ⟨#[122,122]⟩,.int .i64 1] t (0,0))):l9 w w.heap.size (some ⟨b,0,none⟩) [c,⟨IA,1⟩]:=by
 refine .inr ⟨b,0,rfl,(aU.1 h).1,fun i x hx=>?_⟩
 match i,hx with
 | 0,hx=>obtain rfl:=aY hx;constructor <;> simp[World.cell?,h]
 | 1,hx=>obtain rfl:=aY hx;constructor <;> simp[World.cell?,h,IA]
 | i+2,hx=>simp at hx
namespace dP
def jvF (na nb:ByteArray)(cs:Array Value):Fact:=.such (fun v w=>∃ b1 b2 b3:Nat,v=.agg #[.int .i64 4,.string ⟨#[]⟩,.slice none 0 0,.slice none 0 0,.slice (some ⟨b1,0,none⟩) 1 1,.slice (some ⟨b2,0,none⟩) 1 1,.slice none 0 0,.slice (some ⟨b3,0,none⟩) 2 2] ∧
    w.heap[b1]?=some (.cells #[.string na] 9 (0,0))∧w.heap[b2]?=some (.cells #[.string nb] 9 (0,0))∧w.heap[b3]?=some (.cells cs 27 (0,0))) (fun _ _ _ hb h=>by
 obtain⟨b1,b2,b3,h0,h1,h2,h3⟩:=h
 exact⟨b1,b2,b3,h0,sO h1 hb,sO h2 hb,sO h3 hb⟩)
def gvF (na:ByteArray)(cs:Array Value):Fact:=.such (fun v w=>∃ b1 b2 b3:Nat,v=.agg #[.int .i64 7,.string ⟨#[]⟩,.slice none 0 0,.slice none 0 0,.slice (some ⟨b1,0,none⟩) 1 1,.slice none 0 0,.slice (some ⟨b2,0,none⟩) 1 1,.slice (some ⟨b3,0,none⟩) 1 1] ∧
    w.heap[b1]?=some (.cells #[.string na] 9 (0,0))∧w.heap[b2]?=some (.cells #[.string ⟨#[122,122]⟩,.string ⟨#[99,111,117,110,116]⟩,.string ⟨#[]⟩] 46 (0,0))∧w.heap[b3]?=some (.cells cs 27 (0,0))) (fun _ _ _ hb h=>by
 obtain⟨b1,b2,b3,h0,h1,h2,h3⟩:=h
 exact⟨b1,b2,b3,h0,sO h1 hb,sO h2 hb,sO h3 hb⟩)
def dfF:Fact:=.such (fun v w=>∃ g:Nat,v=.slice (some ⟨g+2,0,none⟩) 2 2∧mf w (LT w) (some ⟨g+2,0,none⟩) (pX g)) (fun _ _ _ hb h=>by
 obtain⟨g,h0,h1⟩:=h
 exact⟨g,h0,(h1.kept fun k hk=>hb.block k hk).mono fun k hk=>aK hk hb.size⟩)
def jrF (R:uZ)(B:Nat):Fact:=.such (fun v w=>∃ (A:Option Addr)(n c:Nat)(why:Int)(nm:ByteArray),v=.tuple #[.slice A n c,.int .i64 why,.string nm]∧JR R w B A n c why nm) (fun _ _ _ hb h=>by
 obtain⟨A,n,c,why,nm,h0,h⟩:=h
 refine⟨A,n,c,why,nm,h0,?_⟩
 rcases h with⟨h1,h2,h3,h4,h5⟩|h|h
 ·exact .inl ⟨h1,h2,h3,h4,(h5.kept fun k hk=>hb.block k hk.2).mono fun k hk=>⟨hk.1,aK hk.2 hb.size⟩⟩
 ·exact .inr (.inl h)
 ·exact .inr (.inr h))
theorem Like.aad {ds:List (Option Tmp)} {a a':Act} (h:Like ds a a'):∃ u:Nat→Value,a'={ tmps:=JG u ds a.tmps,defers:=a.defers }∧∀ i,a'.tmps.getD i undef=u i:=by
 refine⟨fun i=>a'.tmps.getD i undef,?_,fun i=>rfl⟩
 rw[FD a'.tmps ds a.tmps h.size h.keep,←h.defers]
end dP
end Go.Proofs.YtjhkihkiebnpaaaGreatDoor
