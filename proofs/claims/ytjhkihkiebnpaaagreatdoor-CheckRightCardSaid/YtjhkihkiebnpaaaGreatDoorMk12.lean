/-
  Package plan: Size, tables, Tables.
-/
import Derived.Test.YtjhkihkiebnpaaaGreatDoorMk9
import Derived.Test.YtjhkihkiebnpaaaGreatDoorMk3
import Derived.Lib.SlicesCompact
import Derived.Deep.DeepCutAuto
import Derived.IntWalk
import Derived.Test.YtjhkihkiebnpaaaGreatDoorMk11
import Derived.KernelRfl
import Derived.Test.YtjhkihkiebnpaaaGreatDoorMk7
import Derived.Test.YtjhkihkiebnpaaaGreatDoorMk1
set_option linter.unusedVariables false
set_option linter.unusedSimpArgs false
set_option maxRecDepth 100000
set_option maxHeartbeats 40000000
namespace Go.Proofs.YtjhkihkiebnpaaaGreatDoor
open Go.RowKit
theorem UK (w:World)(p:P)(a:PA):(w.alloc (.cells (p.bx a) 27)).heap[w.heap.size]?=some (.cells (p.bx a) 27 (0,0)):=anm w _
theorem OJ (w:World)(p:P)(a:PA):Below w.heap.size w (w.alloc (.cells (p.bx a) 27)):=(anl _ _).alloc (ank _) _
theorem UL {t:T} {p:P} (h:nH t p):(qJ p).size≤1000000:=by
 have:=TR h.ok
 have:=h.cost
 unfold qJ
 rw [Qj h]
 show (dH t).length≤_
 omega
theorem Es {t:T} {p:P} (h:nH t p)(hl:(qJ p).size≤600)(a:PA)(w:World)(hA:jS w (LT w) p a)(hE:Env w) :
 Calls Tryz.prog 17 #[p.val a] w fun e w'=>e=.returned (.string (qJ p))∧Below w.heap.size w w':=by
 obtain ⟨w1,aK⟩:∃ w1,w1=w.alloc (.cells (p.bx a) 27):=⟨_,rfl⟩
 have hb1:Below w.heap.size w w1:=by rw [aK];exact OJ w p a
 have hx1:w1.heap[w.heap.size]?=some (.cells (p.bx a) 27 (0,0)):=by rw [aK];exact UK w p a
 have hA1:=hA.low hb1
 have hE1:=hE.low hb1
 have htr:=zy p (Jm h) (MG h) a w1 hA1
 have DX:=anc (fun A' c' w' (hw:Below w1.heap.size w1 w')(h1:(aV p).kids.length≤c')(h2:bz w' w'.heap.size A' (aV p).kids)=>print_any (aV p) (MH h) A' c' w' h1 h2 (hE1.low hw).pow)
 have Hf:=anc (fun w' (hw:Below w1.heap.size w1 w')=>Ho (qJ p) (UL h) w' (hE1.low hw))
 rw [MI h hl] at Hf
 have WQ:=anc (fun b w' (hw:Below w1.heap.size w1 w')(hb:jS w' (LT w') p b)=>Na p a b w' (hA1.low hw) hb)
 have hps:Hid ((⟨(dH (aV p)).toArray⟩:ByteArray)=qJ p):=anc rfl
 rw [hps.out] at DX
 have hz:w.heap.size<w1.heap.size:=(Array.getElem?_eq_some_iff.1 hx1).1
 have HB1:=anc hb1
 have HW1:=anc aK
 have gU:=anc hx1
 generalize qJ p=pp at *
 generalize aV p=tp at *
 obtain ⟨uk,us,un,ul,uo⟩:=tp
 simp only [T.val,T.k,T.s,T.n,T.kids,T.at_] at DX
 clear h hl hA hE hb1 hx1 hA1 hE1 aK
 simp only [P.val,P.bx,yw] at htr Hf WQ HW1 gU ⊢
 have Gl:=anc htr
 clear htr
 obtain ⟨z0,z1,z2,z3,z4,z5,z6,z7,_,_,_,_,_,_,_,_⟩:=az gU.out
 go_enter Tryz.func17,Tryz.ntmps17
 go_upto_region 1 with (fail)
 rw [←HW1.out]
 go_wp2_with fail
 refine (Gl.out).mono ?_
 rintro e w2 ⟨⟨A7,c7,rfl,Om,Oo⟩,hb2⟩
 have HB2:=anc hb2
 have jq:=anc (DX.out A7 c7 w2 hb2 Om (Oo.to fun k hk=>hk.2))
 simp only [T.val,T.k,T.s,T.n,T.kids,T.at_]
 clear hb2 Oo Om
 go_wp2_with fail
 refine (jq.out).mono ?_
 rintro e w3 ⟨rfl,hb3⟩
 have HB3:=anc (HB2.out.trans (hb3.mono HB2.out.size))
 clear hb3
 go_wp2_with fail
 refine (Hf.out w3 HB3.out).mono ?_
 rintro e w4 ⟨⟨b,rfl,hP4⟩,hb4⟩
 simp only [P.val]
 have HB4:=anc (HB3.out.trans (hb4.mono HB3.out.size))
 obtain ⟨w5,wI⟩:∃ w5,w5=w4.alloc (.cells #[.int .i64 p.k,.string p.nm,.slice b.ea p.ex.length b.ec,.slice b.ca p.cols.length b.cc,.slice b.la p.left.length b.lc,.slice b.ra p.right.length b.rc,.slice b.ga p.ag.length b.gc,.slice b.ka p.kids.length b.kc] 27):=⟨_,rfl⟩
 have hb5:Below w4.heap.size w4 w5:=by rw [wI];exact (anl _ _).alloc (ank _) _
 have hx5:w5.heap[w4.heap.size]?=some (.cells #[.int .i64 p.k,.string p.nm,.slice b.ea p.ex.length b.ec,.slice b.ca p.cols.length b.cc,.slice b.la p.left.length b.lc,.slice b.ra p.right.length b.rc,.slice b.ga p.ag.length b.gc,.slice b.ka p.kids.length b.kc] 27 (0,0)):=by rw [wI];exact anm w4 _
 have fP:=anc (HB4.out.trans (hb5.mono HB4.out.size))
 have hsm:=WQ.out b w5 fP.out ((hP4.mono (S':=LT w4) fun k hk=>hk.2).low hb5)
 have HS:=anc hsm
 have Rw:=anc wI
 clear hb4 hb5 hP4 wI hsm z0 z1 z2 z3 z4 z5 z6 z7
 obtain ⟨z0,z1,z2,z3,z4,z5,z6,z7,_,_,_,_,_,_,_,_⟩:=az ((fP.out.block _ hz).trans gU.out)
 obtain ⟨y0,y1,y2,y3,y4,y5,y6,y7,_,_,_,_,_,_,_,_⟩:=az hx5
 go_upto_region 3 with (fail)
 rw [←Rw.out]
 go_wp2_with fail
 refine (HS.out).mono ?_
 rintro e w6 ⟨rfl,hb6⟩
 have iP:=anc (HB1.out.trans ((fP.out.trans (hb6.mono fP.out.size)).mono HB1.out.size))
 clear hb6
 go_wp2_with fail
 go_ret
 exact ⟨rfl,iP.out⟩
theorem sV (p:P)(hpr:oM (aV p))(a:PA)(w:World)(hA:jS w (LT w) p a)(hE:Env w)(YJ:∀ w1,Below w.heap.size w w1→jS w1 (LT w1) p a→Calls Tryz.prog 32 #[p.val a] w1 (mr w1 (aV p))) :
 Calls Tryz.prog 17 #[p.val a] w fun e w'=>(∃ s:ByteArray,e=.returned (.string s)∧((kX (qJ p)).2.1≠0→s=⟨#[]⟩))∧Below w.heap.size w w':=by
 obtain ⟨w1,aK⟩:∃ w1,w1=w.alloc (.cells (p.bx a) 27):=⟨_,rfl⟩
 have hb1:Below w.heap.size w w1:=by rw [aK];exact OJ w p a
 have hx1:w1.heap[w.heap.size]?=some (.cells (p.bx a) 27 (0,0)):=by rw [aK];exact UK w p a
 have hA1:=hA.low hb1
 have hE1:=hE.low hb1
 have htr:=YJ w1 hb1 hA1
 have DX:=anc (fun A' c' w' (hw:Below w1.heap.size w1 w')(h1:(aV p).kids.length≤c')(h2:bz w' w'.heap.size A' (aV p).kids)=>print_any (aV p) hpr A' c' w' h1 h2 (hE1.low hw).pow)
 have Hf:=anc (fun w' (hw:Below w1.heap.size w1 w')=>yx (qJ p) w' (hE1.low hw))
 have WQ:=anc (fun q b w' (hw:Below w1.heap.size w1 w')(hb:jS w' (LT w') q b)=>QJ p q a b w' (hA1.low hw) hb)
 have hps:Hid ((⟨(dH (aV p)).toArray⟩:ByteArray)=qJ p):=anc rfl
 rw [hps.out] at DX
 have hz:w.heap.size<w1.heap.size:=(Array.getElem?_eq_some_iff.1 hx1).1
 have HB1:=anc hb1
 have HW1:=anc aK
 have gU:=anc hx1
 generalize qJ p=pp at *
 generalize kX pp=RU at *
 obtain ⟨q,qw,ql⟩:=RU
 generalize aV p=tp at *
 obtain ⟨uk,us,un,ul,uo⟩:=tp
 simp only [T.val,T.k,T.s,T.n,T.kids,T.at_] at DX
 clear hpr hA hE hb1 hx1 hA1 hE1 aK YJ
 simp only [P.val,P.bx,yw] at htr Hf WQ HW1 gU ⊢
 have Gl:=anc htr
 clear htr
 obtain ⟨z0,z1,z2,z3,z4,z5,z6,z7,_,_,_,_,_,_,_,_⟩:=az gU.out
 go_enter Tryz.func17,Tryz.ntmps17
 go_upto_region 1 with (fail)
 rw [←HW1.out]
 go_wp2_with fail
 refine (Gl.out).mono ?_
 rintro e w2 ⟨⟨A7,c7,rfl,Om,Oo⟩,hb2⟩
 have HB2:=anc hb2
 have jq:=anc (DX.out A7 c7 w2 hb2 Om (Oo.to fun k hk=>hk.2))
 simp only [T.val,T.k,T.s,T.n,T.kids,T.at_]
 clear hb2 Oo Om
 go_wp2_with fail
 refine (jq.out).mono ?_
 rintro e w3 ⟨rfl,hb3⟩
 have HB3:=anc (HB2.out.trans (hb3.mono HB2.out.size))
 clear hb3
 go_wp2_with fail
 refine (Hf.out w3 HB3.out).mono ?_
 rintro e w4 ⟨⟨b,rfl,hP4⟩,hb4⟩
 try simp only [P.val]
 have HB4:=anc (HB3.out.trans (hb4.mono HB3.out.size))
 obtain ⟨w5,wI⟩:∃ w5,w5=w4.alloc (.cells #[.int .i64 q.k,.string q.nm,.slice b.ea q.ex.length b.ec,.slice b.ca q.cols.length b.cc,.slice b.la q.left.length b.lc,.slice b.ra q.right.length b.rc,.slice b.ga q.ag.length b.gc,.slice b.ka q.kids.length b.kc] 27):=⟨_,rfl⟩
 have hb5:Below w4.heap.size w4 w5:=by rw [wI];exact (anl _ _).alloc (ank _) _
 have hx5:w5.heap[w4.heap.size]?=some (.cells #[.int .i64 q.k,.string q.nm,.slice b.ea q.ex.length b.ec,.slice b.ca q.cols.length b.cc,.slice b.la q.left.length b.lc,.slice b.ra q.right.length b.rc,.slice b.ga q.ag.length b.gc,.slice b.ka q.kids.length b.kc] 27 (0,0)):=by rw [wI];exact anm w4 _
 have fP:=anc (HB4.out.trans (hb5.mono HB4.out.size))
 have hsm:=WQ.out q b w5 fP.out ((hP4.mono (S':=LT w4) fun k hk=>hk.2).low hb5)
 try simp only [P.val] at hsm
 have HS:=anc hsm
 have Rw:=anc wI
 clear hb4 hb5 hP4 wI hsm z0 z1 z2 z3 z4 z5 z6 z7
 obtain ⟨z0,z1,z2,z3,z4,z5,z6,z7,_,_,_,_,_,_,_,_⟩:=az ((fP.out.block _ hz).trans gU.out)
 obtain ⟨y0,y1,y2,y3,y4,y5,y6,y7,_,_,_,_,_,_,_,_⟩:=az hx5
 go_upto_region 3 with (fail)
 rw [←Rw.out]
 by_cases hw:qw=0
 ·subst hw
  go_wp2_with fail
  refine (HS.out).mono ?_
  rintro e w6 ⟨⟨bb,rfl⟩,hb6⟩
  have iP:=anc (HB1.out.trans ((fP.out.trans (hb6.mono fP.out.size)).mono HB1.out.size))
  clear hb6
  cases bb
  ·go_wp2_with fail
   go_ret
   exact ⟨⟨_,rfl,fun h=>absurd rfl h⟩,iP.out⟩
  ·go_wp2_with fail
   go_ret
   exact ⟨⟨_,rfl,fun h=>absurd rfl h⟩,iP.out⟩
 ·have hw':(qw==0)=false:=by simpa using hw
  have hw2:(qw != 0)=true:=by simpa using hw
  go_wp2_with fail
  go_ret
  exact ⟨⟨_,rfl,fun _=>rfl⟩,HB1.out.trans (fP.out.mono HB1.out.size)⟩
theorem zK:aV bW=aH:=by unfold bW;rw [aV,if_pos (by decide)]
theorem QR (a:PA)(w:World):Calls Tryz.prog 32 #[.agg #[.int .i64 0,.string ⟨#[]⟩,.slice a.ea 0 a.ec,.slice a.ca 0 a.cc,.slice a.la 0 a.lc,.slice a.ra 0 a.rc,.slice a.ga 0 a.gc,.slice a.ka 0 a.kc]] w (mr w aH):=by
 obtain ⟨wa,nC⟩:∃ wa,wa=w.alloc (.cells #[.int .i64 0,.string ⟨#[]⟩,.slice a.ea 0 a.ec,.slice a.ca 0 a.cc,.slice a.la 0 a.lc,.slice a.ra 0 a.rc,.slice a.ga 0 a.gc,.slice a.ka 0 a.kc] 27):=⟨_,rfl⟩
 have hba:Below w.heap.size w wa:=by rw [nC];exact (anl _ _).alloc (ank _) _
 have hsa:wa.heap.size=w.heap.size+1:=by rw [nC];simp
 have hxa:wa.heap[w.heap.size]?=some (.cells #[.int .i64 0,.string ⟨#[]⟩,.slice a.ea 0 a.ec,.slice a.ca 0 a.cc,.slice a.la 0 a.lc,.slice a.ra 0 a.rc,.slice a.ga 0 a.gc,.slice a.ka 0 a.kc] 27 (0,0)):=by rw [nC];exact anm w _
 obtain ⟨w1,aK⟩:∃ w1,w1=wa.alloc (.cells #[.int .i64 0,.string ⟨#[]⟩,.int .i64 0,.slice none 0 0,.int .i64 0] 71):=⟨_,rfl⟩
 have hb1:Below wa.heap.size wa w1:=by rw [aK];exact (anl _ _).alloc (ank _) _
 have hs1:w1.heap.size=w.heap.size+2:=by rw [aK];simp;omega
 have hr1:w1.heap[w.heap.size+1]?=some (.cells #[.int .i64 0,.string ⟨#[]⟩,.int .i64 0,.slice none 0 0,.int .i64 0] 71 (0,0)):=by rw [aK,←hsa];exact anm wa _
 have HW1:=anc (show w1=(w.alloc (.cells #[.int .i64 0,.string ⟨#[]⟩,.slice a.ea 0 a.ec,.slice a.ca 0 a.cc,.slice a.la 0 a.lc,.slice a.ra 0 a.rc,.slice a.ga 0 a.gc,.slice a.ka 0 a.kc] 27)).alloc (.cells #[.int .i64 0,.string ⟨#[]⟩,.int .i64 0,.slice none 0 0,.int .i64 0] 71) by rw [aK,nC])
 obtain ⟨w2,uT⟩:∃ w2,w2=w1.alloc (.cells #[.string ⟨#[]⟩,.string ⟨#[116,97,98,108,101]⟩,.string ⟨#[102,105,108,116,101,114]⟩,.string ⟨#[112,114,111,106,101,99,116]⟩,.string ⟨#[106,111,105,110]⟩,.string ⟨#[117,110,105,111,110]⟩,.string ⟨#[100,105,115,116,105,110,99,116]⟩,.string ⟨#[103,114,111,117,112]⟩] 9):=⟨_,rfl⟩
 have hb2:Below w1.heap.size w1 w2:=by rw [uT];exact (anl _ _).alloc (ank _) _
 have HB:Hid (Below w.heap.size w w2):=anc ((hba.trans (hb1.mono (by omega))).trans (hb2.mono (by omega)))
 have HR:=anc ((hb2.block _ (by omega)).trans hr1)
 have HX:=anc ((hb2.block w.heap.size (by omega)).trans ((hb1.block _ (by omega)).trans hxa))
 have HW2:=anc uT
 obtain ⟨d0,_,_,_,_,_,_,_,_,_,_,_,_,_,_,_⟩:=az HX.out
 obtain ⟨⟨r0,r1,r2,r3,r4⟩,s0,s1,s2,s3,s4⟩:=ay HR.out
 clear nC hba hsa hxa aK hb1 hs1 hr1 uT hb2
 go_enter Tryz.func32,Tryz.ntmps32
 go_upto_region 1 with (fail)
 rw [←HW1.out]
 go_upto_region 2 with (fail)
 rw [←HW2.out]
 go_wp2_with fail
 refine ano (gm rfl rfl (aB HR.out)) rfl ?_
 exact ⟨⟨none,0,rfl,ank _,.nil _⟩,aC HB.out (Nat.le_succ _)⟩
theorem UM:oM aH:=.mk _ _ _ _ _ (by decide) (by decide) (fun h=>by simp at h) (fun h=>by simp at h)
theorem QS:qJ bW=⟨#[]⟩:=by unfold qJ;rw [zK];rfl
theorem zero_read:(kX ⟨#[]⟩).2.1≠0:=by
 have h:(kX ⟨#[]⟩).2.1=10:=by kernel_rfl
 rw [h]
 decide
theorem Hq (w:World)(S:Nat→Prop)(a:PA):jS w S bW a:=⟨⟨.nil _,.inl rfl,.inl rfl,.inl rfl,.inl rfl,by simp [bW,P.ex],by simp [bW,P.cols],by simp [bW,P.left],by simp [bW,P.right],by simp [bW,P.ag]⟩,.nil _⟩
theorem Dw (a:PA)(w:World)(hE:Env w):Calls Tryz.prog 17 #[bW.val a] w fun e w'=>e=.returned (.string ⟨#[]⟩)∧Below w.heap.size w w':=by
 refine (sV bW (by rw [zK];exact UM) a w (Hq w _ a) hE (fun w1 _ _=>by rw [zK];exact QR a w1)).mono ?_
 rintro e w' ⟨⟨s,rfl,hs⟩,hb⟩
 rw [QS] at hs
 exact ⟨by rw [hs zero_read],hb⟩
theorem Dx (p:P)(hm:Ai p)(hf:Cj p)(hpr:oM (aV p))(a:PA)(w:World)(hA:jS w (LT w) p a)(hE:Env w):Calls Tryz.prog 17 #[p.val a] w fun e w'=>(∃ s,e=.returned (.string s))∧Below w.heap.size w w':=by
 refine (sV p hpr a w hA hE (fun w1 _ h1=>zy p hm hf a w1 h1)).mono ?_
 rintro e w' ⟨⟨s,rfl,_⟩,hb⟩
 exact ⟨⟨s,rfl⟩,hb⟩
def ExP (p:P):Prop:=p≠bW∧∃ t,nH t p∧(qJ p).size≤600∧(qJ p).toList.isEmpty=false
def Ap (D:List DM)(p:P)(w:World)(e:Ending)(w':World):Prop :=
 ∃ (A:Option Addr)(n c:Nat)(why:Int)(nm:ByteArray),e=.returned (.tuple #[.slice A n c,.int .i64 why,.string nm]) ∧
   ((why=0∧p≠bW∧(bZ D p).2.1=0∧n=(bZ D p).1.length∧n≤c∧gV w' (fun q=>w.heap.size≤q∧q<w'.heap.size) A (bZ D p).1)∨(why=12∧n=0∧¬ExP p)∨(why≠0∧n=0∧p≠bW∧why=(bZ D p).2.1∧nm=(bZ D p).2.2))
theorem mJ (D:List DM)(hDl:D.length≤1000)(hD6:∀ d∈D,d.cols.length≤6)(hok:zO (D.map DM.key)=0)(p:P)(hp:p=bW∨(fH p∧oM (aV p)))(a:PA)(w:World)(hA:jS w (LT w) p a)(hE:Env w)(B:Option Addr)(d:Nat)(hdc:D.length≤d)(hB:kS w (LT w) B D) :
 Calls Tryz.prog 8 #[p.val a,.slice B D.length d] w fun e w'=>Ap D p w e w'∧Below w.heap.size w w':=by
 have hlow:∀ w',Below w.heap.size w w'→jS w' (LT w') p a:=fun w' hb=>hA.low hb
 have UN:∀ w',Below w.heap.size w w'→kS w' (LT w') B D:=fun w' hb=>(hB.kept fun k hk=>hb.block k hk).mono fun k hk=>anp hk hb.size
 have HDF:=anc (fun w' (hb:Below w.heap.size w w')=>OZ B d D w' (UN w' hb) (fun k hk=>hk) (by omega) hdc (fun t ht=>by have:=hD6 t ht;omega))
 have BX:Hid (∀ w',Below w.heap.size w w'→Calls Tryz.prog 17 #[p.val a] w' fun e w2=>(∃ s,e=.returned (.string s)∧(p=bW→s=⟨#[]⟩)∧(ExP p→s.toList.isEmpty=false))∧Below w'.heap.size w' w2):=anc (fun w' hb=>by
  by_cases hx:ExP p
  ·obtain ⟨hz,t,h1,h2,h3⟩:=hx
   refine (Es h1 h2 a w' (hlow w' hb) (hE.low hb)).mono ?_
   rintro e w2 ⟨rfl,h4⟩
   exact ⟨⟨_,rfl,fun h=>absurd h hz,fun _=>h3⟩,h4⟩
  by_cases hz:p=bW
  ·subst hz
   refine (Dw a w' (hE.low hb)).mono ?_
   rintro e w2 ⟨rfl,h2⟩
   exact ⟨⟨_,rfl,fun _=>rfl,fun h=>absurd h hx⟩,h2⟩
  ·obtain ⟨hg,hpr⟩:=hp.resolve_left hz
   refine (Dx p (QB p hg) (QC p hg) hpr a w' (hlow w' hb) (hE.low hb)).mono ?_
   rintro e w2 ⟨⟨s,rfl⟩,h2⟩
   exact ⟨⟨_,rfl,fun h=>absurd h hz,fun h=>absurd h hx⟩,h2⟩)
 have Yv:=anc (fun (hz:p≠bW) w' (hb:Below w.heap.size w w')=>Ut D hDl hD6 p (hp.resolve_left hz).1 a w' (hlow w' hb) B d (UN w' hb))
 have HOK:=anc hok
 obtain ⟨dn,ZE⟩:∃ n,D.length=n:=⟨_,rfl⟩
 have HDN:=anc ZE
 rw [ZE] at hdc HDF Yv ⊢
 obtain ⟨R,hR⟩:∃ R,R=bZ D p:=⟨_,rfl⟩
 rw [←hR] at Yv
 obtain ⟨Z,hZ⟩:∃ Z:Prop,Z↔p=bW:=⟨_,Iff.rfl⟩
 obtain ⟨X,hX⟩:∃ X:Prop,X↔ExP p:=⟨_,Iff.rfl⟩
 obtain ⟨Q,hQ⟩:∃ Q:Ending→World→Prop,Q=Ap D p w:=⟨_,rfl⟩
 have agq:Hid (¬X→∀ w',Q (.returned (.tuple #[.slice none 0 0,.int .i64 12,.string ⟨#[]⟩])) w'):=anc (by rw [hQ];exact fun hx w'=>⟨none,0,0,12,⟨#[]⟩,rfl,.inr (.inl ⟨rfl,rfl,fun h=>hx (hX.2 h)⟩)⟩)
 have adw:Hid (¬Z→R.2.1=0→∀ A c w',R.1.length≤c→gV w' (fun q=>w.heap.size≤q∧q<w'.heap.size) A R.1→Q (.returned (.tuple #[.slice A R.1.length c,.int .i64 0,.string ⟨#[]⟩])) w'):=anc (by rw [hQ,hR];exact fun hz h0 A c w' h1 h2=>⟨A,_,c,0,⟨#[]⟩,rfl,.inl ⟨rfl,fun h=>hz (hZ.2 h),h0,rfl,h1,h2⟩⟩)
 have adx:Hid (¬Z→R.2.1≠0→∀ w',Q (.returned (.tuple #[.slice none 0 0,.int .i64 R.2.1,.string R.2.2])) w'):=anc (by rw [hQ,hR];exact fun hz h0 w'=>⟨none,0,0,_,_,rfl,.inr (.inr ⟨h0,rfl,fun h=>hz (hZ.2 h),rfl,rfl⟩)⟩)
 rw [←hQ]
 clear hA hB hE hlow UN hp ZE hok hR hQ
 obtain ⟨w1,aK⟩:∃ w1,w1=w.alloc (.cells (P.bx p a) 27):=⟨_,rfl⟩
 have hb1:Below w.heap.size w w1:=by rw [aK];exact (anl _ _).alloc (ank _) _
 have hx1:w1.heap[w.heap.size]?=some (.cells (P.bx p a) 27 (0,0)):=by rw [aK];exact anm w _
 have gU:=anc hx1
 have HB1:=anc hb1
 have HW1:=anc aK
 have hs1:w.heap.size<w1.heap.size:=(Array.getElem?_eq_some_iff.1 hx1).1
 have aap:Hid (∀ w',Below w.heap.size w w'→Calls Tryz.prog 17 #[p.val a] w' fun e w2=>(∃ s,e=.returned (.string s)∧(Z→s=⟨#[]⟩)∧(X→s.toList.isEmpty=false))∧Below w'.heap.size w' w2):=anc (fun w' hb=>(BX.out w' hb).mono fun e w2 h=>⟨by obtain ⟨s,h1,h2,h3⟩:=h.1;exact ⟨s,h1,fun hz=>h2 (hZ.1 hz),fun hx=>h3 (hX.1 hx)⟩,h.2⟩)
 have aaq:=anc (fun (hz:¬Z) w' (hb:Below w.heap.size w w')=>Yv.out (fun h=>hz (hZ.2 h)) w' hb)
 clear BX Yv hZ hX aK hb1 hx1
 simp only [P.bx,P.val] at gU HW1 aap aaq ⊢
 generalize p.k=xk at *
 generalize p.nm=Kv at *
 generalize p.ex.length=x1 at *
 generalize p.cols.length=x2 at *
 generalize p.left.length=x3 at *
 generalize p.right.length=x4 at *
 generalize p.ag.length=x5 at *
 generalize p.kids.length=x6 at *
 obtain ⟨ea,ec,ca,cc,la,lc,ra,rc,ga,gc,ka,kc⟩:=a
 simp only at gU HW1 aap aaq ⊢
 obtain ⟨d0,d1,d2,d3,d4,d5,d6,d7,f0,f1,f2,f3,f4,f5,f6,f7⟩:=az gU.out
 go_enter Tryz.func8,Tryz.ntmps8
 go_upto_region 1 with (fail)
 rw [←HW1.out]
 go_wp2_with fail
 refine (HDF.out w1 HB1.out).mono ?_
 rintro e w2 ⟨rfl,hb2⟩
 rw [HOK.out]
 have hs2:=hb2.size
 have HB2:=anc (HB1.out.trans (hb2.mono HB1.out.size))
 have dG:=anc ((hb2.block w.heap.size hs1).trans gU.out)
 clear hb2 d0 d1 d2 d3 d4 d5 d6 d7 f0 f1 f2 f3 f4 f5 f6 f7
 obtain ⟨d0,d1,d2,d3,d4,d5,d6,d7,f0,f1,f2,f3,f4,f5,f6,f7⟩:=az dG.out
 go_wp2_with fail
 refine (aap.out w2 HB2.out).mono ?_
 rintro e w3 ⟨⟨s,rfl,hs,hsx⟩,hb3⟩
 have hs3:=hb3.size
 have HB3:=anc (HB2.out.trans (hb3.mono HB2.out.size))
 have mP:=anc ((hb3.block w.heap.size (by omega)).trans dG.out)
 have HS:=anc hs
 have HSX:=anc hsx
 clear hb3 hs hsx d0 d1 d2 d3 d4 d5 d6 d7 f0 f1 f2 f3 f4 f5 f6 f7
 obtain ⟨d0,d1,d2,d3,d4,d5,d6,d7,f0,f1,f2,f3,f4,f5,f6,f7⟩:=az mP.out
 cases hse:s.toList.isEmpty
 rotate_left 1
 ·have Aa:Hid (¬X):=anc (fun h=>by rw [HSX.out h] at hse;cases hse)
  clear HS HSX
  go_wp2_with fail
  go_ret3
  exact ⟨agq.out Aa.out _,HB3.out⟩
 ·clear HSX
  have hnz:¬Z:=fun h=>by
   rw [HS.out h] at hse
   exact absurd hse (by first | simp | (rw [show (⟨#[]⟩:ByteArray).toList.isEmpty=true from by first | rfl | kernel_rfl];simp))
  have HC:=anc (aaq.out hnz w3 HB3.out)
  go_upto_region 5 with (fail)
  go_wp2_with fail
  refine HC.out.mono ?_
  rintro e w4 ⟨⟨A,n,c,rfl,hr4⟩,hb4⟩
  have hs4:=hb4.size
  have HB4:=anc (HB3.out.trans (hb4.mono HB3.out.size))
  obtain ⟨cl,wy,wn⟩:=R
  simp only at hr4 adw adx
  have HR4:=anc hr4
  obtain ⟨w5,wI⟩:∃ w5,w5=w4.alloc (.cells #[.int .i64 wy,.string wn] 61):=⟨_,rfl⟩
  have Rw:=anc wI
  have aar:Hid (Below w4.heap.size w4 w5):=anc (by rw [wI];exact (anl _ _).alloc (ank _) _)
  have Oe:Hid (w5.heap[w4.heap.size]?=some (.cells #[.int .i64 wy,.string wn] 61 (0,0))):=anc (by rw [wI];exact anm w4 _)
  have fP:=anc (HB4.out.trans (aar.out.mono HB4.out.size))
  clear hb4 hr4 wI d0 d1 d2 d3 d4 d5 d6 d7 f0 f1 f2 f3 f4 f5 f6 f7
  obtain ⟨⟨t0,t1⟩,_,_⟩:=cell2 Oe.out
  go_upto_region 6 with (fail)
  rw [←Rw.out]
  by_cases hwy:wy=0
  ·subst hwy
   obtain ⟨y1,y2,y3⟩:=HR4.out rfl
   subst y1
   have HY:=anc y3
   clear y3
   go_wp2_with fail
   go_ret3
   exact ⟨adw.out hnz (by first | rfl | trivial) A c _ y2 ((HY.out.kept fun k hk=>aar.out.block k hk.2).mono fun q hq=>⟨anv HB3.out.size hq.1,anp hq.2 aar.out.size⟩),fP.out⟩
  ·have acM:(wy != 0)=true:=by simpa using hwy
   go_upto_region 7 with (fail)
   go_region
   all_goals
    go_wp2_with fail
    go_ret3
    exact ⟨adx.out hnz hwy _,fP.out.drew⟩
theorem JW {α:Type} {p:α→Bool} {l:List α} {k:Nat} {x:α} (hx:l[k]?=some x):(l.drop k).all p=(p x&&(l.drop (k+1)).all p):=by
 obtain ⟨h1,e1⟩:=List.getElem?_eq_some_iff.1 hx
 rw [List.drop_eq_getElem_cons h1,e1,List.all_cons]
theorem UO (t:T)(A:Option Addr)(c:Nat)(w:World)(hc:t.kids.length≤c)(hA:bz w w.heap.size A t.kids) :
 Calls Tryz.prog 81 #[t.val A c] w fun e w'=>e=.returned (.bool (fA t != 0))∧Below w.heap.size w w':=by
 obtain ⟨k,s,n,l,a⟩:=t
 change l.length≤c at hc
 change bz w w.heap.size A l at hA
 have hb0:=anc (aG w #[.int .i64 k,.string s,.int .i64 n,.slice A l.length c,.int .i64 a] 86)
 have hx0:=anc (pR w k s n A l.length c a)
 have hwd:=anc (Jt (.mk k s n l a) A c (w.alloc (.cells #[.int .i64 k,.string s,.int .i64 n,.slice A l.length c,.int .i64 a] 86)) ((hA.low hb0.out).more hb0.out.size))
 rw [show fA (.mk k s n l a)=bY (iR (.mk k s n l a)).toList l from rfl]
 generalize iR (.mk k s n l a)=wd at *
 simp only [T.val,T.k,T.s,T.n,T.kids,T.at_] at hwd ⊢
 have hlen:=hA.len
 have HA:=anc hA
 clear hA
 rcases BI wd.toList with h | h
 ·simp only [jK,List.mem_cons,List.not_mem_nil,or_false] at h
  rcases h with h | h | h | h | h | h | h
  ·obtain ⟨r,hr⟩:∃ r,r=bY wd.toList l:=⟨_,rfl⟩
   rw [←hr]
   rw [h,BJ] at hr
   simp only [jU] at h
   have HR:=anc hr.symm
   clear hr
   by_cases h2:l.length=2
   ·obtain ⟨x,hx⟩:∃ x,l[1]?=some x:=⟨_,anr (by omega)⟩
    rw [h2,getD_some hx] at HR
    generalize l.length=m at *
    subst h2
    go_enter Tryz.func81,Tryz.ntmps81
    go_wp2_with fail
    refine (hwd.out).mono ?_
    rintro e w2 ⟨rfl,hb⟩
    have dG:=anc ((hb.block w.heap.size (by simp)).trans hx0.out)
    have HB2:=anc (hb0.out.trans (hb.mono hb0.out.size))
    obtain ⟨⟨k0,k1,k2,k3,k4⟩,_,_,_,_,_⟩:=ay dG.out
    clear hb hwd hb0 hx0
    obtain ⟨b,o,A',c',rfl,hb,c1,c2,c3,c4,c5,hc',hK⟩:=HA.out.cu _ HB2.out 1 x hx
    rw [Nat.one_mul] at c1
    clear c2 c3 c4 c5 hc' hK hx HA
    generalize x.k=xk at *
    by_cases hx2:xk=2
    ·subst hx2
     go_wp2_with fail
     go_ret
     exact ⟨by show Ending.returned (Value.bool true)=_;(rw [←HR.out,if_pos ⟨trivial,trivial⟩];first | rfl | done),HB2.out⟩
    ·have RS:(xk==2)=false:=by simpa using hx2
     go_wp2_with fail
     go_ret
     exact ⟨by show Ending.returned (Value.bool false)=_;(rw [←HR.out,if_neg (fun h=>hx2 h.2)];first | rfl | done),HB2.out⟩
   ·generalize l.length=m at *
    clear HA
    have h2':((m:Int)==2)=false:=by rw [beq_eq_false_iff_ne];omega
    go_enter Tryz.func81,Tryz.ntmps81
    go_wp2_with fail
    refine (hwd.out).mono ?_
    rintro e w2 ⟨rfl,hb⟩
    have dG:=anc ((hb.block w.heap.size (by simp)).trans hx0.out)
    have HB2:=anc (hb0.out.trans (hb.mono hb0.out.size))
    obtain ⟨⟨k0,k1,k2,k3,k4⟩,_,_,_,_,_⟩:=ay dG.out
    clear hb hwd hb0 hx0
    go_wp2_with fail
    go_ret
    exact ⟨by show Ending.returned (Value.bool false)=_;(rw [←HR.out,if_neg (fun h=>h2 h.1)];first | rfl | done),HB2.out⟩
  ·rw [h,zZ]
   simp only [iK] at h
   generalize l.length=m at *
   clear HA
   by_cases h2:m=3
   ·subst h2
    rw [if_pos rfl]
    go_enter Tryz.func81,Tryz.ntmps81
    go_wp2_with fail
    refine (hwd.out).mono ?_
    rintro e w2 ⟨rfl,hb⟩
    have dG:=anc ((hb.block w.heap.size (by simp)).trans hx0.out)
    have HB2:=anc (hb0.out.trans (hb.mono hb0.out.size))
    obtain ⟨⟨k0,k1,k2,k3,k4⟩,_,_,_,_,_⟩:=ay dG.out
    clear hb hwd hb0 hx0
    go_wp2_with fail
    go_ret
    exact ⟨rfl,HB2.out⟩
   ·rw [if_neg h2]
    have h2':((m:Int)==3)=false:=by rw [beq_eq_false_iff_ne];omega
    go_enter Tryz.func81,Tryz.ntmps81
    go_wp2_with fail
    refine (hwd.out).mono ?_
    rintro e w2 ⟨rfl,hb⟩
    have dG:=anc ((hb.block w.heap.size (by simp)).trans hx0.out)
    have HB2:=anc (hb0.out.trans (hb.mono hb0.out.size))
    obtain ⟨⟨k0,k1,k2,k3,k4⟩,_,_,_,_,_⟩:=ay dG.out
    clear hb hwd hb0 hx0
    go_wp2_with fail
    go_ret
    exact ⟨rfl,HB2.out⟩
  ·obtain ⟨r,hr⟩:∃ r,r=bY wd.toList l:=⟨_,rfl⟩
   rw [←hr]
   rw [h,wQ] at hr
   simp only [ig] at h
   have HR:=anc hr.symm
   clear hr
   by_cases h2:3≤l.length
   ·obtain ⟨d,hd⟩:∃ d,l.length=d+1:=⟨l.length-1,by omega⟩
    have hd2:2≤d:=by omega
    have hmid:Hid (∀ q,q+1<d→(bT l 1)[q]?=l[q+1]?):=anc (fun q hq=>by unfold bT;rw [List.getElem?_take,if_pos (by omega),List.getElem?_drop,Nat.add_comm])
    have hml:Hid ((bT l 1).length=d-1):=anc (by unfold bT;rw [List.length_take,List.length_drop];omega)
    have Qa:=anc hd
    rw [hd] at hc hlen hwd hb0 hx0 ⊢
    have HR2:Hid ((bT l 1).all aW=true→r=3):=anc (fun h=>by rw [←HR.out,if_pos ⟨h2,h⟩])
    have HR3:Hid ((bT l 1).all aW=false→r=0):=anc (fun h=>by rw [←HR.out,if_neg (fun g=>by rw [h] at g;simp at g)])
    have hw1:wrap64 (d:Int)=(d:Int):=IntWalk.wrap64_in _ (by omega)
    have hd3:¬d+1<3:=by omega
    have hd4:¬(d:Int)+1<3:=by omega
    clear HR h2 hd
    go_enter Tryz.func81,Tryz.ntmps81
    go_wp2_with fail
    refine (hwd.out).mono ?_
    rintro e w2 ⟨rfl,hb⟩
    have dG:=anc ((hb.block w.heap.size (by simp)).trans hx0.out)
    have HB2:=anc (hb0.out.trans (hb.mono hb0.out.size))
    obtain ⟨⟨k0,k1,k2,k3,k4⟩,_,_,_,_,_⟩:=ay dG.out
    clear hb hwd hb0 hx0
    go_upto_region 15 with (fail)
    go_loopw [5] (fun i wr=>∃ j:Nat,j+1≤d∧i=.int .i64 ((j+1:Nat):Int)∧wr=w2∧Hid ((bT l 1).all aW=((bT l 1).drop j).all aW)) (fun i _=>d-(intOf i).toNat)
    case atStart=>exact ⟨0,by omega,rfl,by first | rfl | trivial,anc (by rw [List.drop_zero])⟩
    case round =>
     obtain ⟨j,hj,rfl,rfl,hz⟩:=hrel
     by_cases hlt:j+1<d
     ·obtain ⟨x,hx⟩:∃ x,l[j+1]?=some x:=⟨_,anr (by rw [Qa.out];omega)⟩
      have hst:=anc (hz.out.trans (JW (p:=aW) ((hmid.out j hlt).trans hx)))
      obtain ⟨b,o,A1,d1,rfl,Ky,c1,c2,c3,c4,c5,hd1,hK1⟩:=HA.out.cu _ HB2.out (j+1) x hx
      have hcx:aW x=(x.k==1&&(x.kids.length==2&&zY x.kids==2)):=rfl
      rw [hcx] at hst
      clear hx hz hcx
      have hK1':=anc hK1
      obtain ⟨xk,xs,xn,xl,xa⟩:=x
      simp only [T.val,T.k,T.s,T.n,T.kids,T.at_] at c1 c2 c3 c4 c5 hst hK1' hd1
      clear hK1 c2 c3 c5
      by_cases e1:xk=1
      ·subst e1
       by_cases e2:xl.length=2
       ·obtain ⟨y,hy⟩:∃ y,xl[0]?=some y:=⟨_,anr (by omega)⟩
        obtain ⟨b2,o2,A2,d2,rfl,hb8,g1,g2,g3,g4,g5,Xy,hK2⟩:=hK1'.out.cu _ (anl _ _) 0 y hy
        rw [Nat.zero_mul,Nat.add_zero] at g1
        have hst2:Hid ((bT l 1).all aW=((y.k==2)&&((bT l 1).drop (j+1)).all aW)):=anc (by rw [hst.out,e2,EH hy];rfl)
        clear hst g2 g3 g4 g5 Xy hK2 hy
        generalize xl.length=xm at *
        subst e2
        generalize y.k=yk at *
        by_cases e3:yk=2
        ·subst e3
         have hst3:Hid ((bT l 1).all aW=((bT l 1).drop (j+1)).all aW):=anc (hst2.out.trans (Bool.true_and _))
         clear hst2
         go_wp2_with fail
         go_roundw
         case rel=>exact ⟨j+1,by omega,by go_num,by first | rfl | trivial,hst3⟩
         case measure=>simp [intOf];omega
        ·have e3':(yk==2)=false:=by simpa using e3
         have alH:(yk != 2)=true:=by simpa using e3
         have h0:=anc (HR3.out (by rw [hst2.out,e3'];rfl))
         clear hst2 e3
         go_wp2_with fail
         go_ret
         exact ⟨by rw [h0.out];rfl,HB2.out⟩
       ·have h0:=anc (HR3.out (by rw [hst.out,show (xl.length==2)=false by simpa using e2];rfl))
        clear hst hK1'
        generalize xl.length=xm at *
        have e2':((xm:Int) != 2)=true:=by simp;omega
        clear e2
        go_wp2_with fail
        go_ret
        exact ⟨by rw [h0.out];rfl,HB2.out⟩
      ·have e1':(xk==1)=false:=by simpa using e1
       have alI:(xk != 1)=true:=by simpa using e1
       have h0:=anc (HR3.out (by rw [hst.out,e1'];rfl))
       clear hst hK1' e1
       generalize xl.length=xm at *
       go_wp2_with fail
       go_ret
       exact ⟨by rw [h0.out];rfl,HB2.out⟩
     ·obtain rfl:j+1=d:=by omega
      have h0:=anc (HR2.out (by rw [hz.out,List.drop_of_length_le (by rw [hml.out];omega)];rfl))
      clear hz
      go_wp2_with fail
      go_ret
      exact ⟨by rw [h0.out];rfl,HB2.out⟩
   ·generalize l.length=m at *
    clear HA
    go_enter Tryz.func81,Tryz.ntmps81
    go_wp2_with fail
    refine (hwd.out).mono ?_
    rintro e w2 ⟨rfl,hb⟩
    have dG:=anc ((hb.block w.heap.size (by simp)).trans hx0.out)
    have HB2:=anc (hb0.out.trans (hb.mono hb0.out.size))
    obtain ⟨⟨k0,k1,k2,k3,k4⟩,_,_,_,_,_⟩:=ay dG.out
    clear hb hwd hb0 hx0
    go_wp2_with fail
    go_ret
    exact ⟨by show Ending.returned (Value.bool false)=_;(rw [←HR.out,if_neg (fun h=>h2 h.1)];first | rfl | done),HB2.out⟩
  ·obtain ⟨r,hr⟩:∃ r,r=bY wd.toList l:=⟨_,rfl⟩
   rw [←hr]
   rw [h,EI] at hr
   simp only [nS] at h
   have HR:=anc hr.symm
   clear hr
   by_cases h2:l.length=5
   ·obtain ⟨x,hx⟩:∃ x,l[1]?=some x:=⟨_,anr (by omega)⟩
    obtain ⟨y,hy⟩:∃ y,l[2]?=some y:=⟨_,anr (by omega)⟩
    rw [h2,getD_some hx,getD_some hy,vU,vU] at HR
    have HR2:Hid ((x.k==1&&allA x.kids)=true→(y.k==1&&allA y.kids)=true→r=4):=anc (fun g h=>by rw [←HR.out,if_pos ⟨rfl,g,h⟩])
    have HRa:Hid ((x.k==1&&allA x.kids)=false→r=0):=anc (fun h=>by rw [←HR.out,if_neg (fun g=>by rw [h] at g;simp at g)])
    have HRb:Hid ((y.k==1&&allA y.kids)=false→r=0):=anc (fun h=>by rw [←HR.out,if_neg (fun g=>by rw [h] at g;simp at g)])
    clear HR
    generalize l.length=m at *
    subst h2
    go_enter Tryz.func81,Tryz.ntmps81
    go_wp2_with fail
    refine (hwd.out).mono ?_
    rintro e w2 ⟨rfl,hb⟩
    have dG:=anc ((hb.block w.heap.size (by simp)).trans hx0.out)
    have HB2:=anc (hb0.out.trans (hb.mono hb0.out.size))
    obtain ⟨⟨k0,k1,k2,k3,k4⟩,_,_,_,_,_⟩:=ay dG.out
    clear hb hwd hb0 hx0
    obtain ⟨b,o,A1,d1,rfl,Ky,c1,c2,c3,c4,c5,hd1,hK1⟩:=HA.out.cu _ HB2.out 1 x hx
    rw [Nat.one_mul] at c1 c2 c3 c4 c5
    obtain ⟨b',o',A2,d2,e9,hb8,e1,e2,e3,e4,e5,hd2,hK2⟩:=HA.out.cu _ HB2.out 2 y hy
    obtain ⟨rfl,rfl⟩:b'=b∧o'=o:=by injection e9 with e9;injection e9 with e9 e10;exact ⟨e9.symm,e10.symm⟩
    have ha1:=anc (qK A1 d1 x.kids w2 hK1)
    have ha2:=anc (qK A2 d2 y.kids w2 hK2)
    generalize allA x.kids=q1 at *
    generalize allA y.kids=q2 at *
    obtain ⟨xk,xs,xn,xl,xa⟩:=x
    obtain ⟨yk,ys,yn,yl,ya⟩:=y
    simp only [T.val,T.k,T.s,T.n,T.kids,T.at_] at c1 c2 c3 c4 c5 e1 e2 e3 e4 e5 ha1 ha2 HR2 HRa HRb
    clear hK1 hd1 hx hK2 hd2 hy HA c2 c3 c5 e2 e3 e5
    generalize xl.length=xm at *
    generalize yl.length=ym at *
    by_cases f1:xk=1
    ·subst f1
     by_cases f2:yk=1
     ·subst f2
      cases q1
      ·skip
       go_wp2_with fail
       refine (ha1.out).mono ?_
       rintro e w' ⟨rfl,rfl⟩
       have h0:=anc (HRa.out rfl)
       go_wp2_with fail
       go_ret
       exact ⟨by rw [h0.out];rfl,HB2.out⟩
      ·cases q2
       ·skip
        go_wp2_with fail
        refine (ha1.out).mono ?_
        rintro e w' ⟨rfl,rfl⟩
        go_wp2_with fail
        refine (ha2.out).mono ?_
        rintro e w' ⟨rfl,rfl⟩
        have h0:=anc (HRb.out rfl)
        go_wp2_with fail
        go_ret
        exact ⟨by rw [h0.out];rfl,HB2.out⟩
       ·skip
        go_wp2_with fail
        refine (ha1.out).mono ?_
        rintro e w' ⟨rfl,rfl⟩
        go_wp2_with fail
        refine (ha2.out).mono ?_
        rintro e w' ⟨rfl,rfl⟩
        have h0:=anc (HR2.out rfl rfl)
        go_wp2_with fail
        go_ret
        exact ⟨by rw [h0.out];rfl,HB2.out⟩
     ·have f2':(yk==1)=false:=by simpa using f2
      have h1:=anc (HRb.out (by rw [f2'];rfl))
      clear f2
      go_wp2_with fail
      go_ret
      exact ⟨by rw [h1.out];rfl,HB2.out⟩
    ·have f1':(xk==1)=false:=by simpa using f1
     have h1:=anc (HRa.out (by rw [f1'];rfl))
     clear f1
     go_wp2_with fail
     go_ret
     exact ⟨by rw [h1.out];rfl,HB2.out⟩
   ·generalize l.length=m at *
    clear HA
    have h2':((m:Int)==5)=false:=by rw [beq_eq_false_iff_ne];omega
    go_enter Tryz.func81,Tryz.ntmps81
    go_wp2_with fail
    refine (hwd.out).mono ?_
    rintro e w2 ⟨rfl,hb⟩
    have dG:=anc ((hb.block w.heap.size (by simp)).trans hx0.out)
    have HB2:=anc (hb0.out.trans (hb.mono hb0.out.size))
    obtain ⟨⟨k0,k1,k2,k3,k4⟩,_,_,_,_,_⟩:=ay dG.out
    clear hb hwd hb0 hx0
    go_wp2_with fail
    go_ret
    exact ⟨by show Ending.returned (Value.bool false)=_;(rw [←HR.out,if_neg (fun h=>h2 h.1)];first | rfl | done),HB2.out⟩
  ·rw [h,BK]
   simp only [jJ] at h
   generalize l.length=m at *
   clear HA
   by_cases h2:m=3
   ·subst h2
    rw [if_pos rfl]
    go_enter Tryz.func81,Tryz.ntmps81
    go_wp2_with fail
    refine (hwd.out).mono ?_
    rintro e w2 ⟨rfl,hb⟩
    have dG:=anc ((hb.block w.heap.size (by simp)).trans hx0.out)
    have HB2:=anc (hb0.out.trans (hb.mono hb0.out.size))
    obtain ⟨⟨k0,k1,k2,k3,k4⟩,_,_,_,_,_⟩:=ay dG.out
    clear hb hwd hb0 hx0
    go_wp2_with fail
    go_ret
    exact ⟨rfl,HB2.out⟩
   ·rw [if_neg h2]
    have h2':((m:Int)==3)=false:=by rw [beq_eq_false_iff_ne];omega
    go_enter Tryz.func81,Tryz.ntmps81
    go_wp2_with fail
    refine (hwd.out).mono ?_
    rintro e w2 ⟨rfl,hb⟩
    have dG:=anc ((hb.block w.heap.size (by simp)).trans hx0.out)
    have HB2:=anc (hb0.out.trans (hb.mono hb0.out.size))
    obtain ⟨⟨k0,k1,k2,k3,k4⟩,_,_,_,_,_⟩:=ay dG.out
    clear hb hwd hb0 hx0
    go_wp2_with fail
    go_ret
    exact ⟨rfl,HB2.out⟩
  ·rw [h,uP]
   simp only [dW] at h
   generalize l.length=m at *
   clear HA
   by_cases h2:m=2
   ·subst h2
    rw [if_pos rfl]
    go_enter Tryz.func81,Tryz.ntmps81
    go_wp2_with fail
    refine (hwd.out).mono ?_
    rintro e w2 ⟨rfl,hb⟩
    have dG:=anc ((hb.block w.heap.size (by simp)).trans hx0.out)
    have HB2:=anc (hb0.out.trans (hb.mono hb0.out.size))
    obtain ⟨⟨k0,k1,k2,k3,k4⟩,_,_,_,_,_⟩:=ay dG.out
    clear hb hwd hb0 hx0
    go_wp2_with fail
    go_ret
    exact ⟨rfl,HB2.out⟩
   ·rw [if_neg h2]
    have h2':((m:Int)==2)=false:=by rw [beq_eq_false_iff_ne];omega
    go_enter Tryz.func81,Tryz.ntmps81
    go_wp2_with fail
    refine (hwd.out).mono ?_
    rintro e w2 ⟨rfl,hb⟩
    have dG:=anc ((hb.block w.heap.size (by simp)).trans hx0.out)
    have HB2:=anc (hb0.out.trans (hb.mono hb0.out.size))
    obtain ⟨⟨k0,k1,k2,k3,k4⟩,_,_,_,_,_⟩:=ay dG.out
    clear hb hwd hb0 hx0
    go_wp2_with fail
    go_ret
    exact ⟨rfl,HB2.out⟩
  ·obtain ⟨r,hr⟩:∃ r,r=bY wd.toList l:=⟨_,rfl⟩
   rw [←hr]
   rw [h,BL] at hr
   simp only [kK] at h
   have HR:=anc hr.symm
   clear hr
   by_cases h2:3≤l.length
   ·obtain ⟨x,hx⟩:∃ x,l[1]?=some x:=⟨_,anr (by omega)⟩
    rw [getD_some hx,vU] at HR
    obtain ⟨d,hd⟩:∃ d,l.length=d+1:=⟨l.length-1,by omega⟩
    have hd2:2≤d:=by omega
    have hmid:Hid (∀ q,q+2<d→(bT l 2)[q]?=l[q+2]?):=anc (fun q hq=>by unfold bT;rw [List.getElem?_take,if_pos (by omega),List.getElem?_drop,Nat.add_comm])
    have hml:Hid ((bT l 2).length=d-2):=anc (by unfold bT;rw [List.length_take,List.length_drop];omega)
    have Qa:=anc hd
    rw [hd] at hc hlen hwd hb0 hx0 ⊢
    have HR2:Hid ((x.k==1&&allA x.kids)=true→(bT l 2).all ik=true→r=7):=anc (fun g h=>by rw [←HR.out,if_pos ⟨h2,g,h⟩])
    have HR3:Hid ((bT l 2).all ik=false→r=0):=anc (fun h=>by rw [←HR.out,if_neg (fun g=>by rw [h] at g;simp at g)])
    have HR4:Hid ((x.k==1&&allA x.kids)=false→r=0):=anc (fun h=>by rw [←HR.out,if_neg (fun g=>by rw [h] at g;simp at g)])
    have hw1:wrap64 (d:Int)=(d:Int):=IntWalk.wrap64_in _ (by omega)
    have hd3:¬d+1<3:=by omega
    have hd4:¬(d:Int)+1<3:=by omega
    clear HR h2 hd
    go_enter Tryz.func81,Tryz.ntmps81
    go_wp2_with fail
    refine (hwd.out).mono ?_
    rintro e w2 ⟨rfl,hb⟩
    have dG:=anc ((hb.block w.heap.size (by simp)).trans hx0.out)
    have HB2:=anc (hb0.out.trans (hb.mono hb0.out.size))
    obtain ⟨⟨k0,k1,k2,k3,k4⟩,_,_,_,_,_⟩:=ay dG.out
    clear hb hwd hb0 hx0
    obtain ⟨b,o,A1,d1,rfl,Ky,c1,c2,c3,c4,c5,hd1,hK1⟩:=HA.out.cu _ HB2.out 1 x hx
    rw [Nat.one_mul] at c1 c2 c3 c4 c5
    have ha1:=anc (qK A1 d1 x.kids w2 hK1)
    generalize allA x.kids=q1 at *
    obtain ⟨xk,xs,xn,xl,xa⟩:=x
    simp only [T.val,T.k,T.s,T.n,T.kids,T.at_] at c1 c2 c3 c4 c5 ha1 HR2 HR4
    clear hK1 hd1 hx c2 c3 c5
    generalize xl.length=xm at *
    by_cases f1:xk=1
    ·subst f1
     cases q1
     ·have h0:=anc (HR4.out rfl)
      go_wp2_with fail
      refine (ha1.out).mono ?_
      rintro e w' ⟨rfl,rfl⟩
      go_wp2_with fail
      go_ret
      exact ⟨by rw [h0.out];rfl,HB2.out⟩
     ·have uG:=anc (HR2.out rfl)
      go_wp2_with fail
      refine (ha1.out).mono ?_
      rintro e w' ⟨rfl,rfl⟩
      go_upto_region 26 with (fail)
      clear HR2 HR4 ha1
      rename_i w2
      go_loopw [6] (fun i wr=>∃ j:Nat,j+2≤d∧i=.int .i64 ((j+2:Nat):Int)∧Below w.heap.size w wr∧Hid ((bT l 2).all ik=((bT l 2).drop j).all ik)) (fun i _=>d-(intOf i).toNat)
      case atStart=>exact ⟨0,by omega,rfl,HB2.out,anc (by rw [List.drop_zero])⟩
      case round =>
       obtain ⟨j,hj,rfl,hbr,hz⟩:=hrel
       have VU:=anc hbr
       clear hbr
       by_cases hlt:j+2<d
       ·obtain ⟨y,hy⟩:∃ y,l[j+2]?=some y:=⟨_,anr (by rw [Qa.out];omega)⟩
        have hst:=anc (hz.out.trans (JW (p:=ik) ((hmid.out j hlt).trans hy)))
        obtain ⟨b',o',A2,d2,e9,hb8,e1,e2,e3,e4,e5,Xy,hK2⟩:=HA.out.cu _ VU.out (j+2) y hy
        obtain ⟨rfl,rfl⟩:b'=b∧o'=o:=by injection e9 with e9;injection e9 with e9 e10;exact ⟨e9.symm,e10.symm⟩
        have hcx:ik y=((y.k==1&&allA y.kids)&&(y.kids.length==2 || y.kids.length==3)):=rfl
        rw [hcx] at hst
        have ha2:=anc (fun u=>qK A2 d2 y.kids (wr.alloc u) ((hK2.low ((anl _ _).alloc (ank _) u)).more (by simp)))
        have hxb:=anc (VU.out.alloc VU.out.size)
        clear hy hz hcx hK2
        generalize allA y.kids=q2 at *
        obtain ⟨yk,ys,yn,yl,ya⟩:=y
        simp only [T.val,T.k,T.s,T.n,T.kids,T.at_] at e1 e2 e3 e4 e5 hst ha2 Xy
        obtain ⟨ym,hym⟩:∃ ym,yl.length=ym:=⟨_,rfl⟩
        rw [hym] at e4 ha2 hst Xy
        clear hym
        have hlt2:(j:Int)+2<(d:Int):=by omega
        by_cases g1:yk=1
        ·subst g1
         cases q2
         ·have h0:=anc (HR3.out (by rw [hst.out];rfl))
          clear hst
          go_wp2_with fail
          refine (ha2.out _).mono ?_
          rintro e w' ⟨rfl,rfl⟩
          go_wp2_with fail
          go_ret
          exact ⟨by rw [h0.out];rfl,hxb.out _⟩
         ·by_cases g2:ym=2
          ·subst g2
           have hst3:Hid ((bT l 2).all ik=((bT l 2).drop (j+1)).all ik):=anc (hst.out.trans (Bool.true_and _))
           clear hst
           go_wp2_with fail
           refine (ha2.out _).mono ?_
           rintro e w' ⟨rfl,rfl⟩
           go_wp2_with fail
           go_roundw
           case rel=>exact ⟨j+1,by omega,by go_num,hxb.out _,hst3⟩
           case measure=>simp [intOf];omega
          ·by_cases g3:ym=3
           ·subst g3
            have hst3:Hid ((bT l 2).all ik=((bT l 2).drop (j+1)).all ik):=anc (hst.out.trans (Bool.true_and _))
            clear hst
            go_wp2_with fail
            refine (ha2.out _).mono ?_
            rintro e w' ⟨rfl,rfl⟩
            go_wp2_with fail
            go_roundw
            case rel=>exact ⟨j+1,by omega,by go_num,hxb.out _,hst3⟩
            case measure=>simp [intOf];omega
           ·have h0:=anc (HR3.out (by rw [hst.out,show (ym==2)=false by simpa using g2,show (ym==3)=false by simpa using g3];rfl))
            have g2':((ym:Int) != 2)=true:=by simp;omega
            have g3':((ym:Int) != 3)=true:=by simp;omega
            clear hst g2 g3
            go_wp2_with fail
            refine (ha2.out _).mono ?_
            rintro e w' ⟨rfl,rfl⟩
            go_wp2_with fail
            go_ret
            exact ⟨by rw [h0.out];rfl,hxb.out _⟩
        ·have g1':(yk==1)=false:=by simpa using g1
         have g1'':(yk != 1)=true:=by simpa using g1
         have h0:=anc (HR3.out (by rw [hst.out,g1'];rfl))
         clear hst g1
         go_wp2_with fail
         go_ret
         exact ⟨by rw [h0.out];rfl,hxb.out _⟩
       ·obtain rfl:j+2=d:=by omega
        have h0:=anc (uG.out (by rw [hz.out,List.drop_of_length_le (by rw [hml.out];omega)];rfl))
        clear hz
        go_wp2_with fail
        go_ret
        exact ⟨by rw [h0.out];rfl,VU.out⟩
    ·have f1':(xk==1)=false:=by simpa using f1
     have alJ:(xk != 1)=true:=by simpa using f1
     have h0:=anc (HR4.out (by rw [f1'];rfl))
     clear f1
     go_wp2_with fail
     go_ret
     exact ⟨by rw [h0.out];rfl,HB2.out⟩
   ·generalize l.length=m at *
    clear HA
    go_enter Tryz.func81,Tryz.ntmps81
    go_wp2_with fail
    refine (hwd.out).mono ?_
    rintro e w2 ⟨rfl,hb⟩
    have dG:=anc ((hb.block w.heap.size (by simp)).trans hx0.out)
    have HB2:=anc (hb0.out.trans (hb.mono hb0.out.size))
    obtain ⟨⟨k0,k1,k2,k3,k4⟩,_,_,_,_,_⟩:=ay dG.out
    clear hb hwd hb0 hx0
    go_wp2_with fail
    go_ret
    exact ⟨by show Ending.returned (Value.bool false)=_;(rw [←HR.out,if_neg (fun h=>h2 h.1)];first | rfl | done),HB2.out⟩
 ·rw [kind_none h]
  simp only [jK,jU,iK,ig,nS,jJ,dW,kK,List.mem_cons,List.not_mem_nil,or_false,forall_eq_or_imp,forall_eq] at h
  obtain ⟨h0,h1,h2,h3,h4,h5,h6⟩:=h
  generalize l.length=m at *
  clear HA
  go_enter Tryz.func81,Tryz.ntmps81
  go_wp2_with fail
  refine (hwd.out).mono ?_
  rintro e w2 ⟨rfl,hb⟩
  have dG:=anc ((hb.block w.heap.size (by simp)).trans hx0.out)
  have HB2:=anc (hb0.out.trans (hb.mono hb0.out.size))
  obtain ⟨⟨k0,k1,k2,k3,k4⟩,_,_,_,_,_⟩:=ay dG.out
  clear hb hwd hb0 hx0
  go_wp2_with fail
  go_ret
  exact ⟨rfl,HB2.out⟩
def nK (t:T):Prop:=t.Fine→∀ (A:Option Addr)(c:Nat)(w:World),t.kids.length≤c→bz w w.heap.size A t.kids →
 Calls Tryz.prog 84 #[t.val A c] w fun r w'=>(∃ A' c',r=.returned (.tuple #[(aI t).1.val A' c',.int .i64 (aI t).2.1,.int .i64 (aI t).2.2])∧gy w' (fun k=>w.heap.size≤k∧k<w'.heap.size) A' (aI t).1.kids)∧Below w.heap.size w w'
theorem Hr (k:Int)(s:ByteArray)(n:Int)(l:List T)(a:Int)(hk1:k≠1):nK (.mk k s n l a):=by
 intro l9 A c w _ hA
 obtain ⟨_,_,_,_,_,_,_,hsz,_⟩:=l9
 simp only [T.val,T.k,T.s,T.n,T.kids,T.at_] at hA ⊢
 have hz:Hid (aI (.mk k s n l a)=if k=2 then (if nameB s then (.mk 1 s 0 [],0,0) else (zeroE,20,a)) else if k=3 then (.mk 2 ⟨#[]⟩ n [],0,0) else if k=4 then (.mk 3 s 0 [],0,0) else (zeroE,12,a)):=anc (by
  rw [aI.eq_def]
  simp only [if_neg hk1])
 obtain ⟨w1,aK⟩:∃ w1,w1=(w.alloc (.cells #[.int .i64 k,.string s,.int .i64 n,.slice A l.length c,.int .i64 a] 86)).alloc (.cells #[.int .i64 0,.string ⟨#[]⟩,.int .i64 0,.slice none 0 0] 38):=⟨_,rfl⟩
 have hb1:Below w.heap.size w w1:=by rw [aK];exact ((anl _ _).alloc (ank _) _).alloc (by simp) _
 have hws:w1.heap.size=w.heap.size+2:=by rw [aK];simp
 have HB1:=anc hb1
 have hB:Hid (w1.heap[w.heap.size+1]?=some (.cells #[.int .i64 0,.string ⟨#[]⟩,.int .i64 0,.slice none 0 0] 38 (0,0))):=anc (by
  rw [aK]
  have:=anm (w.alloc (.cells #[.int .i64 k,.string s,.int .i64 n,.slice A l.length c,.int .i64 a] 86)) (.cells #[.int .i64 0,.string ⟨#[]⟩,.int .i64 0,.slice none 0 0] 38)
  simpa using this)
 have oD:Hid (w1.cell? ⟨w.heap.size,0,none⟩=some (.int .i64 k)∧w1.cell? ⟨w.heap.size,1,none⟩=some (.string s)∧w1.cell? ⟨w.heap.size,2,none⟩=some (.int .i64 n)∧w1.cell? ⟨w.heap.size,3,none⟩=some (.slice A l.length c)∧w1.cell? ⟨w.heap.size,4,none⟩=some (.int .i64 a)):=anc (by rw [aK];simp)
 have HW1:=anc aK
 have hN:=anc (rX s (by omega) w1)
 generalize aI (.mk k s n l a)=q at *
 generalize l.length=ln at *
 clear hA aK hb1
 have abD:(k != 1)=true:=by simpa using hk1
 by_cases h2:k=2
 ·subst h2
  cases hnb:nameB s
  ·have hq:Hid (q=(zeroE,20,a)):=anc (by rw [hz.out,if_pos rfl,hnb];rfl)
   rw [hnb] at hN
   clear hz
   go_enter Tryz.func84,Tryz.ntmps84
   go_wp2_with fail
   rw [←HW1.out]
   refine (hN.out).mono ?_
   rintro e w2 ⟨rfl,hb2⟩
   have hs2:=hb2.size
   have HB2:=anc (HB1.out.trans (hb2.mono (by omega)))
   have hR2:Hid (w2.heap[w.heap.size+1]?=some (.cells #[.int .i64 0,.string ⟨#[]⟩,.int .i64 0,.slice none 0 0] 38 (0,0))):=anc ((hb2.block _ (by omega)).trans hB.out)
   have d4:w2.cell? ⟨w.heap.size,4,none⟩=some (.int .i64 a):=(hb2.cell (p:=⟨w.heap.size,4,none⟩) (show w.heap.size<_ by omega)).trans oD.out.2.2.2.2
   obtain ⟨⟨k0,k1,k2,k3⟩,f0,f1,f2,f3⟩:=bQ hR2.out
   clear hb2
   go_wp2_with fail
   go_region
   go_wp2_with fail
   refine ano (aS rfl rfl rfl rfl (show ((nO w2 (w.heap.size+1) _ _ _ _).drew).heap[w.heap.size+1]?=_ from aZ hR2.out)) rfl ?_
   exact ⟨⟨none,0,by rw [hq.out];rfl,by rw [hq.out];exact .nil _⟩,(bF HB2.out (Nat.le_succ _)).drew⟩
  ·have hq:Hid (q=(.mk 1 s 0 [],0,0)):=anc (by rw [hz.out,if_pos rfl,hnb];rfl)
   rw [hnb] at hN
   clear hz
   go_enter Tryz.func84,Tryz.ntmps84
   go_wp2_with fail
   rw [←HW1.out]
   refine (hN.out).mono ?_
   rintro e w2 ⟨rfl,hb2⟩
   have hs2:=hb2.size
   have HB2:=anc (HB1.out.trans (hb2.mono (by omega)))
   have hR2:Hid (w2.heap[w.heap.size+1]?=some (.cells #[.int .i64 0,.string ⟨#[]⟩,.int .i64 0,.slice none 0 0] 38 (0,0))):=anc ((hb2.block _ (by omega)).trans hB.out)
   have d1:w2.cell? ⟨w.heap.size,1,none⟩=some (.string s):=(hb2.cell (p:=⟨w.heap.size,1,none⟩) (show w.heap.size<_ by omega)).trans oD.out.2.1
   obtain ⟨⟨k0,k1,k2,k3⟩,f0,f1,f2,f3⟩:=bQ hR2.out
   clear hb2
   go_wp2_with fail
   refine ano (aS rfl rfl rfl rfl (aZ hR2.out)) rfl ?_
   exact ⟨⟨none,0,by rw [hq.out];rfl,by rw [hq.out];exact .nil _⟩,bF HB2.out (Nat.le_succ _)⟩
 have h2':(k==2)=false:=by simpa using h2
 by_cases h3:k=3
 ·subst h3
  have hq:Hid (q=(.mk 2 ⟨#[]⟩ n [],0,0)):=anc (by rw [hz.out,if_neg (by decide),if_pos rfl])
  clear hz hN
  go_enter Tryz.func84,Tryz.ntmps84
  go_upto_region 1 with (fail)
  rw [←HW1.out]
  obtain ⟨⟨k0,k1,k2,k3⟩,f0,f1,f2,f3⟩:=bQ hB.out
  obtain ⟨d0,d1,d2,d3,d4⟩:=oD.out
  go_wp2_with fail
  refine ano (aS rfl rfl rfl rfl (aZ hB.out)) rfl ?_
  exact ⟨⟨none,0,by rw [hq.out];rfl,by rw [hq.out];exact .nil _⟩,bF HB1.out (Nat.le_succ _)⟩
 have h3':(k==3)=false:=by simpa using h3
 by_cases h4:k=4
 ·subst h4
  have hq:Hid (q=(.mk 3 s 0 [],0,0)):=anc (by rw [hz.out,if_neg (by decide),if_neg (by decide),if_pos rfl])
  clear hz hN
  go_enter Tryz.func84,Tryz.ntmps84
  go_upto_region 1 with (fail)
  rw [←HW1.out]
  obtain ⟨⟨k0,k1,k2,k3⟩,f0,f1,f2,f3⟩:=bQ hB.out
  obtain ⟨d0,d1,d2,d3,d4⟩:=oD.out
  go_wp2_with fail
  refine ano (aS rfl rfl rfl rfl (aZ hB.out)) rfl ?_
  exact ⟨⟨none,0,by rw [hq.out];rfl,by rw [hq.out];exact .nil _⟩,bF HB1.out (Nat.le_succ _)⟩
 have h4':(k==4)=false:=by simpa using h4
 have hq:Hid (q=(zeroE,12,a)):=anc (by rw [hz.out,if_neg h2,if_neg h3,if_neg h4])
 clear hz hN
 go_enter Tryz.func84,Tryz.ntmps84
 go_upto_region 1 with (fail)
 rw [←HW1.out]
 obtain ⟨⟨k0,k1,k2,k3⟩,f0,f1,f2,f3⟩:=bQ hB.out
 obtain ⟨d0,d1,d2,d3,d4⟩:=oD.out
 go_wp2_with fail
 go_region
 go_wp2_with fail
 refine ano (aS rfl rfl rfl rfl (show ((nO w1 (w.heap.size+1) _ _ _ _).drew).heap[w.heap.size+1]?=_ from aZ hB.out)) rfl ?_
 exact ⟨⟨none,0,by rw [hq.out];rfl,by rw [hq.out];exact .nil _⟩,(bF HB1.out (Nat.le_succ _)).drew⟩
end Go.Proofs.YtjhkihkiebnpaaaGreatDoor
