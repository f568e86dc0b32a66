/-
  The reference's plans: Read; law 10's of: some plan that Read makes, or none.
-/
import Derived.Test.YtjhkihkiebnpaaaGreatDoorMk15
import Derived.Test.YtjhkihkiebnpaaaGreatDoorMk16
import Derived.Test.YtjhkihkiebnpaaaGreatDoorMk12
import Derived.Test.YtjhkihkiebnpaaaGreatDoorMk8
import Derived.Test.YtjhkihkiebnpaaaGreatDoorMk6
import Derived.Test.YtjhkihkiebnpaaaGreatDoorRows
import Derived.Test.YtjhkihkiebnpaaaGreatDoorMk0
import Derived.BigQuiet
import Derived.Laws.StructEq
import Derived.Test.YtjhkihkiebnpaaaGreatDoorMk13
import Derived.Test.YtjhkihkiebnpaaaGreatDoorMk11
import Derived.Test.YtjhkihkiebnpaaaGreatDoorCards
import Derived.Test.YtjhkihkiebnpaaaGreatDoorTie
import Derived.WalkKit
import Derived.ProofKit
import Derived.OpenShut
import Derived.Deep.DeepHandedRow
import Derived.Lib.LaidTab
import Derived.Lib.AppendIntMem
import Derived.Deep.Slices
import Derived.Deep.Fields
import Derived.ChangeSame
import Derived.Carry
import Derived.JoinedCond
set_option linter.unusedVariables false
set_option linter.unusedSimpArgs false
set_option maxRecDepth 100000
set_option maxHeartbeats 40000000
namespace Go.Proofs.YtjhkihkiebnpaaaGreatDoor
open Go.RowKit
structure X3 (p:P):Prop where
 good:fH p
 prn:oM (aV p)
 size:(qJ p).size≤600
def Hy (s:ByteArray)(q:P):Prop:=∃ t,XF s=some (some t)∧pV t∧aX t (0,0)=(q,0,0)∧(qJ q).size≤600
def YO (s:ByteArray)(w:World)(e:Ending)(w':World):Prop:=(∃ (a:PA)(p:P)(why at_:Int),e=.returned (.tuple #[p.val a,.int .i64 why,.int .i64 at_])∧jS w' (fun k=>w.heap.size≤k∧k<w'.heap.size) p a∧(p=bW∨X3 p)∧(∀ q,Hy s q→p=q))∧Below w.heap.size w w'
theorem DI {s:ByteArray} {w w':World} {e:Ending} {why at_:Int} (hno:∀ q,¬Hy s q)(he:e=.returned (.tuple #[.agg #[.int .i64 0,.string ⟨#[]⟩,.slice none 0 0,.slice none 0 0,.slice none 0 0,.slice none 0 0,.slice none 0 0,.slice none 0 0],.int .i64 why,.int .i64 at_]))(hb:Below w.heap.size w w'):YO s w e w' :=
 ⟨⟨oG,bW,why,at_,he,FZ _ _,.inl rfl,fun q h=>absurd h (hno q)⟩,hb⟩
theorem X4 {t:T} {p:P} (hg:t.Good)(hd:t.Deep 13)(h:aX t (0,0)=(p,0,0)):fH p∧oM (aV p):=by
 have h0:(aX t (0,0)).2.1=0:=by rw [h]
 have h1:=NL t hg h0
 have h2:=(gW t (0,0) h0).2.1
 have h3:=(WM t 13 (ank _) hg hd h0).1
 rw [h] at h1 h2
 exact ⟨h1,by rw [h2];exact h3⟩
theorem OQ {w wf:World} {q:P} {a:PA} {x0 x1 x2 x3 x4 x5 x6 x7:Value} (h:jS wf (fun k=>w.heap.size<k∧k<wf.heap.size) q a):jS (rO wf w.heap.size x0 x1 x2 x3 x4 x5 x6 x7) (fun k=>w.heap.size≤k∧k<(rO wf w.heap.size x0 x1 x2 x3 x4 x5 x6 x7).heap.size) q a :=
 (h.kept fun k hk=>gz (by have:=hk.1;omega)).mono fun k hk=>⟨Nat.le_of_lt hk.1,by rw [kC];exact hk.2⟩
theorem J7 (s:ByteArray)(w:World):Calls Tryz.prog 21 #[.string s] w (YO s w):=by
 obtain ⟨w1,aK⟩:∃ w1,w1=w.alloc (.cells #[.int .i64 0,.string ⟨#[]⟩,.slice none 0 0,.slice none 0 0,.slice none 0 0,.slice none 0 0,.slice none 0 0,.slice none 0 0] 27):=⟨_,rfl⟩
 have hb1:Below w.heap.size w w1:=by rw [aK];exact (anl _ _).alloc (ank _) _
 have hs1:w.heap.size<w1.heap.size:=by rw [aK];simp
 have gU:Hid (w1.heap[w.heap.size]?=some (.cells #[.int .i64 0,.string ⟨#[]⟩,.slice none 0 0,.slice none 0 0,.slice none 0 0,.slice none 0 0,.slice none 0 0,.slice none 0 0] 27 (0,0))):=anc (by rw [aK];exact anm w _)
 have HW1:=anc aK
 have HB1:=anc hb1
 have Hf:=anc (NP s w1)
 clear aK hb1
 go_enter Tryz.func21,Tryz.ntmps21
 go_upto_region 1 with (fail)
 rw [←HW1.out]
 go_wp2_with fail
 refine (Hf.out).mono ?_
 rintro e w2 ⟨⟨t,A,c,why,at_,rfl,⟨hg,hd⟩,hc,hX,hrx⟩,hb2⟩
 have ZF:Hid (∀ q,Hy s q→why=0∧pV t∧aX t (0,0)=(q,0,0)∧(qJ q).size≤600):=anc (fun q h=>by
  obtain ⟨r,h1,h2,h3,h4⟩:=h
  obtain ⟨e1,rfl⟩:=hrx r h1
  exact ⟨e1,h2,h3,h4⟩)
 clear hrx
 have HGT:=anc (And.intro hg hd)
 have HXT:=anc hX
 have hs2:=hb2.size
 have HB2:=anc (HB1.out.trans (hb2.mono HB1.out.size))
 have dG:=anc ((hb2.block w.heap.size hs1).trans gU.out)
 clear hg hd hX hb2
 obtain ⟨tm,Yz⟩:∃ tm,t.kids.length=tm:=⟨_,rfl⟩
 obtain ⟨w3,lI⟩:∃ w3,w3=w2.alloc (.cells #[.int .i64 t.k,.string t.s,.int .i64 t.n,.slice A t.kids.length c,.int .i64 t.at_] 86):=⟨_,rfl⟩
 have hb3:Below w2.heap.size w2 w3:=by rw [lI];exact (anl _ _).alloc (ank _) _
 have HT3:Hid (w3.heap[w2.heap.size]?=some (.cells #[.int .i64 t.k,.string t.s,.int .i64 t.n,.slice A t.kids.length c,.int .i64 t.at_] 86 (0,0))):=anc (by rw [lI];exact anm w2 _)
 have Lu:=anc (U2 t HGT.out.1 A c w3 hc (((HXT.out.to (B:=w2.heap.size) fun k hk=>hk.2).low hb3).more hb3.size))
 have DX:Hid (∀ p,aX t (0,0)=(p,0,0)→fH p∧oM (aV p)):=anc (fun p h=>X4 HGT.out.1 HGT.out.2 h)
 have HFP:Hid (∀ {e w'},sW w3 t e w'→∃ (a:PA)(p:P)(y z:Int),e=.returned (.tuple #[p.val a,.int .i64 y,.int .i64 z])∧jS w' (fun k=>w3.heap.size≤k∧k<w'.heap.size) p a∧((y=0∧fH p∧oM (aV p))∨(y≠0∧p=bW))∧(∀ q,Hy s q→y=0∧p=q∧(qJ q).size≤600)∧Below w3.heap.size w3 w'):=anc (fun h=>by
  obtain ⟨⟨a,p,y,z,he,hA,hp⟩,hb⟩:=h
  refine ⟨a,p,y,z,he,hA,?_,fun q hq=>?_,hb⟩
  ·rcases hp with ⟨h1,h2⟩ | h
   ·exact .inl ⟨h1,DX.out p h2⟩
   ·exact .inr ⟨h.1,h.2.1⟩
  ·obtain ⟨_,h5,h6,h7⟩:=ZF.out q hq
   rcases hp with ⟨h1,h2⟩ | h
   ·exact ⟨h1,by rw [h2] at h6;exact congrArg Prod.fst h6,h7⟩
   ·exact absurd h5 h.2.2)
 have HW3:=anc lI
 have HB3:=anc (HB2.out.trans (hb3.mono HB2.out.size))
 have mP:=anc ((hb3.block w.heap.size (anp hs1 hs2)).trans dG.out)
 have hs3:w2.heap.size≤w3.heap.size:=hb3.size
 clear lI hb3 DX HGT hc HXT Yz
 obtain ⟨tk,ts,tn,tl,ta⟩:=t
 simp only [T.val,T.k,T.s,T.n,T.kids,T.at_] at HT3 Lu HW3 ⊢
 generalize tl.length=m at *
 go_upto_region 2 with (fail)
 rw [←HW3.out]
 by_cases h0:why=0
 ·subst h0
  obtain ⟨⟨k0,k1,k2,k3,k4⟩,_,_,_,_,_⟩:=ay HT3.out
  go_wp2_with fail
  refine (Lu.out).mono ?_
  rintro e w4 hpost
  obtain ⟨aq,q,y,z,rfl,hA4,hst,hrk,hb4⟩:=HFP.out hpost
  have HRK:=anc hrk
  clear hrk
  have HA4:=anc hA4
  have HST:=anc hst
  have hs4:=hb4.size
  have HB4:=anc (HB3.out.trans (hb4.mono HB3.out.size))
  have qU:=anc ((hb4.block w.heap.size (anp hs1 (anv hs2 hs3))).trans mP.out)
  clear hA4 hst hb4 hpost k0 k1 k2 k3 k4
  obtain ⟨w5,wI⟩:∃ w5,w5=w4.alloc (.cells (q.bx aq) 27):=⟨_,rfl⟩
  have hb5:Below w4.heap.size w4 w5:=by rw [wI];exact (anl _ _).alloc (ank _) _
  have uH:Hid (w5.heap[w4.heap.size]?=some (.cells (q.bx aq) 27 (0,0))):=anc (by rw [wI];exact anm w4 _)
  have Rw:=anc wI
  have fP:=anc (HB4.out.trans (hb5.mono HB4.out.size))
  have qW:=anc ((hb5.block w.heap.size (anp hs1 (anv hs2 (anv hs3 hs4)))).trans qU.out)
  have KL:=anc ((HA4.out.kept (w':=w5) (fun k hk=>hb5.block k hk.2)).mono (S':=fun k=>k<w5.heap.size) (fun k hk=>anp hk.2 hb5.size))
  have HTX:=anc (fun (h1:fH q)(h2:oM (aV q))=>Qu q (Uk q h1) h2 aq w5 KL.out)
  have HPP:Hid ((⟨(dH (aV q)).toArray⟩:ByteArray)=qJ q):=anc rfl
  rw [HPP.out] at HTX
  have HOF:Hid (∀ (wf:World),Below w5.heap.size w5 wf→jS wf (fun k=>w.heap.size<k∧k<wf.heap.size) q aq):=anc (fun wf hb=>(HA4.out.kept (w':=wf) (fun k hk=>(hb.block k (anp hk.2 hb5.size)).trans (hb5.block k hk.2))).mono (fun k hk=>⟨by have:=hk.1;omega,anp hk.2 (anv hb5.size hb.size)⟩))
  have hs5:w4.heap.size<w5.heap.size:=(Array.getElem?_eq_some_iff.1 uH.out).1
  clear wI hb5 KL
  generalize hpq:qJ q=pq at *
  have HPQ:=anc hpq
  clear hpq HPP
  have HQZ:Hid (y≠0→q=bW):=anc (fun h=>by rcases HST.out with ⟨h1,_⟩ | ⟨_,h1⟩;exact absurd h1 h;exact h1)
  have HQG:Hid (y=0→fH q∧oM (aV q)):=anc (fun h=>by rcases HST.out with ⟨_,h1⟩ | ⟨h1,_⟩;exact h1;exact absurd h h1)
  clear HST
  have ahd:Hid (∀ v:Value,v=q.val aq→v=q.val aq):=anc fun v h=>h
  obtain ⟨q0,hq0⟩:∃ q0,q0=q:=⟨_,rfl⟩
  rw [←hq0] at HQZ HQG HOF HPQ HRK
  have HQ0:Hid (q0=q):=anc hq0
  have aaY:Hid (∀ (h1:fH q0)(h2:oM (aV q0)),Calls Tryz.prog 41 #[q.val aq] w5 fun e w'=>e=.returned (.string pq)∧Below w5.heap.size w5 w'):=anc (by rw [hq0];exact HTX.out)
  clear HTX ahd hq0
  obtain ⟨qk,WY,Zw,C9,Dc,vV,Zx,Df⟩:=q
  obtain ⟨a0,aaZ⟩:∃ a0,a0=aq:=⟨_,rfl⟩
  rw [←aaZ] at HOF
  have HA0:Hid (a0=aq):=anc aaZ
  clear aaZ
  obtain ⟨ea,ec,ca,cc,la,lc,ra,rc,ga,gc,ka,kc⟩:=aq
  simp only [P.bx,P.val,P.k,P.nm,P.ex,P.cols,P.left,P.right,P.ag,P.kids] at uH Rw aaY ⊢
  have YA:Hid (q0.val a0=.agg #[.int .i64 qk,.string WY,.slice ea Zw.length ec,.slice ca C9.length cc,.slice la Dc.length lc,.slice ra vV.length rc,.slice ga Zx.length gc,.slice ka Df.length kc]):=anc (by rw [HQ0.out,HA0.out];rfl)
  clear HQ0 HA0 HA4
  generalize Zw.length=m1 at *
  generalize C9.length=m2 at *
  generalize Dc.length=m3 at *
  generalize vV.length=m4 at *
  generalize Zx.length=m5 at *
  generalize Df.length=m6 at *
  go_upto_region 5 with (fail)
  rw [←Rw.out]
  by_cases hy:y=0
  ·subst hy
   obtain ⟨hg1,hg2⟩:=HQG.out rfl
   have qX:=anc (aaY.out hg1 hg2)
   have HG1:=anc hg1
   have HG2:=anc hg2
   obtain ⟨d0,d1,d2,d3,d4,d5,d6,d7,_,_,_,_,_,_,_,_⟩:=az uH.out
   clear hg1 hg2 aaY
   go_wp2_with fail
   refine (qX.out).mono ?_
   rintro e w6 ⟨rfl,hb6⟩
   have CG:=anc ((hb6.block w.heap.size (by omega)).trans qW.out)
   have A8:=anc ((hb6.block w4.heap.size hs5).trans uH.out)
   have iP:=anc (fP.out.trans (hb6.mono fP.out.size))
   have KN:=anc (HOF.out w6 hb6)
   clear hb6 d0 d1 d2 d3 d4 d5 d6 d7
   obtain ⟨d0,d1,d2,d3,d4,d5,d6,d7,_,_,_,_,_,_,_,_⟩:=az A8.out
   obtain ⟨t0,t1,t2,t3,t4,t5,t6,t7,g0,g1,g2,g3,g4,g5,g6,g7⟩:=az CG.out
   by_cases hl:600<pq.size
   ·have hl2:(600:Int)<(pq.size:Int):=by omega
    go_wp2_with fail
    refine ano (eX rfl rfl rfl rfl (di CG.out)) rfl ?_
    exact DI (fun q h=>by obtain ⟨_,e,h3⟩:=HRK.out q h;rw [←e,HPQ.out] at h3;omega) rfl (dE iP.out (ank _))
   ·have hl2:¬(600:Int)<(pq.size:Int):=by omega
    have hl3:decide ((600:Int)<(pq.size:Int))=false:=decide_eq_false hl2
    have HL:Hid (pq.size≤600):=anc (by omega)
    clear hl hl2
    go_wp2_with fail
    refine ano (eX rfl rfl rfl rfl (di CG.out)) rfl ?_
    refine ⟨⟨a0,q0,0,z,by rw [YA.out];rfl,?_,.inr ⟨HG1.out,HG2.out,by rw [HPQ.out];exact HL.out⟩,fun q h=>(HRK.out q h).2.1⟩,dE iP.out (ank _)⟩
    exact (OQ KN.out)
  ·have hy1:(y==0)=false:=by simpa using hy
   have hqz:=HQZ.out hy
   obtain ⟨d0,d1,d2,d3,d4,d5,d6,d7,_,_,_,_,_,_,_,_⟩:=az uH.out
   obtain ⟨t0,t1,t2,t3,t4,t5,t6,t7,g0,g1,g2,g3,g4,g5,g6,g7⟩:=az qW.out
   have HQN:=anc hqz
   have HP5:=anc (HOF.out w5 (anl _ _))
   clear hqz
   go_wp2_with fail
   refine ano (eX rfl rfl rfl rfl (di qW.out)) rfl ?_
   exact ⟨⟨a0,q0,y,z,by rw [YA.out];rfl,OQ HP5.out,.inl HQN.out,fun q h=>absurd (HRK.out q h).1 hy⟩,dE fP.out (ank _)⟩
 ·have h1:(why != 0)=true:=by simpa using h0
  obtain ⟨t0,t1,t2,t3,t4,t5,t6,t7,g0,g1,g2,g3,g4,g5,g6,g7⟩:=az mP.out
  go_wp2_with fail
  refine ano (eX rfl rfl rfl rfl (di mP.out)) rfl ?_
  exact DI (fun q h=>h0 (ZF.out q h).1) rfl (dE HB3.out (ank _))
def ckU:List C:=[⟨⟨#[97]⟩,1⟩,⟨⟨#[99]⟩,1⟩]
def Rx:List C:=[⟨⟨#[97]⟩,1⟩,⟨⟨#[98]⟩,1⟩,⟨⟨#[115]⟩,2⟩]
theorem ahe (w:World):Calls Tryz.prog 25 #[] w fun e w'=>e=.returned (.slice (some ⟨w.heap.size,0,none⟩) 2 2)∧w.alloc (.cells #[.string ⟨#[97]⟩,.int .i64 1,.string ⟨#[99]⟩,.int .i64 1] 42)=w':=by
 go_enter Tryz.func25,Tryz.ntmps25
 go_wp2_with fail
 go_ret
 exact ⟨rfl,rfl⟩
theorem adL (w:World):Calls Tryz.prog 24 #[] w fun e w'=>e=.returned (.slice (some ⟨w.heap.size,0,none⟩) 3 3)∧w.alloc (.cells #[.string ⟨#[97]⟩,.int .i64 1,.string ⟨#[98]⟩,.int .i64 1,.string ⟨#[115]⟩,.int .i64 2] 42)=w':=by
 go_enter Tryz.func24,Tryz.ntmps24
 go_wp2_with fail
 go_ret
 exact ⟨rfl,rfl⟩
theorem U9 {l:List C} {w:World} {b:Nat} (h0:∀ i x,l[i]?=some x→w.cell? ⟨b,i*2,none⟩=some (.string x.nm)∧w.cell? ⟨b,i*2+1,none⟩=some (.int .i64 x.k)) {S:Nat→Prop} (hS:S b):gV w S (some ⟨b,0,none⟩) l :=
 .inr ⟨b,0,rfl,hS,fun i x hx=>by rw [Nat.zero_add];exact h0 i x hx⟩
def oO (n:Nat):List DM:=[⟨⟨#[116]⟩,some ⟨n,0,none⟩,3,Rx⟩,⟨⟨#[117]⟩,some ⟨n+1,0,none⟩,2,ckU⟩]
theorem yC (n:Nat):∀ d∈oO n,d.cols.length≤6:=by
 intro d hd
 simp only [oO,List.mem_cons,List.not_mem_nil,or_false] at hd
 rcases hd with rfl | rfl <;> simp [Rx,ckU]
theorem Hz (n:Nat):zO ((oO n).map DM.key)=0:=by
 show zO [(⟨#[116]⟩,Rx),(⟨#[117]⟩,ckU)]=0
 kernel_rfl
theorem X5 {w:World} {n:Nat} {S:Nat→Prop} (h0:w.heap[n]?=some (.cells #[.string ⟨#[97]⟩,.int .i64 1,.string ⟨#[98]⟩,.int .i64 1,.string ⟨#[115]⟩,.int .i64 2] 42 (0,0)))(h1:w.heap[n+1]?=some (.cells #[.string ⟨#[97]⟩,.int .i64 1,.string ⟨#[99]⟩,.int .i64 1] 42 (0,0)))
 (h2:w.heap[n+2]?=some (.cells #[.string ⟨#[116]⟩,.slice (some ⟨n,0,none⟩) 3 3,.string ⟨#[117]⟩,.slice (some ⟨n+1,0,none⟩) 2 2] 66 (0,0)))(s0:S n)(s1:S (n+1))(s2:S (n+2)):kS w S (some ⟨n+2,0,none⟩) (oO n):=by
 refine ⟨.inr ⟨n+2,0,rfl,s2,fun i t ht=>?_⟩,fun t ht=>?_,fun t ht=>?_⟩
 ·match i with
  | 0=>obtain rfl:=Option.some.inj ht;constructor <;> simp [World.cell?,h2,Rx]
  | 1=>obtain rfl:=Option.some.inj ht;constructor <;> simp [World.cell?,h2,ckU]
  | i+2=>simp [oO] at ht
 ·simp only [oO,List.mem_cons,List.not_mem_nil,or_false] at ht
  rcases ht with rfl | rfl
  ·refine U9 (fun i x hx=>?_) s0
   match i with
   | 0=>obtain rfl:=Option.some.inj hx;constructor <;> simp [World.cell?,h0]
   | 1=>obtain rfl:=Option.some.inj hx;constructor <;> simp [World.cell?,h0]
   | 2=>obtain rfl:=Option.some.inj hx;constructor <;> simp [World.cell?,h0]
   | i+3=>simp [Rx] at hx
  ·refine U9 (fun i x hx=>?_) s1
   match i with
   | 0=>obtain rfl:=Option.some.inj hx;constructor <;> simp [World.cell?,h1]
   | 1=>obtain rfl:=Option.some.inj hx;constructor <;> simp [World.cell?,h1]
   | i+2=>simp [ckU] at hx
 ·simp only [oO,List.mem_cons,List.not_mem_nil,or_false] at ht
  rcases ht with rfl | rfl <;> simp [Rx,ckU]
theorem yD (w:World):Calls Tryz.prog 9 #[] w fun e w'=>(e=.returned (.slice (some ⟨w.heap.size+2,0,none⟩) 2 2)∧kS w' (fun q=>w.heap.size≤q∧q<w'.heap.size) (some ⟨w.heap.size+2,0,none⟩) (oO w.heap.size))∧Below w.heap.size w w':=by
 go_enter Tryz.func9,Tryz.ntmps9
 go_wp2_with (first | (go_at_call 25;refine (ahe _).mono ?_;rintro e w' ⟨rfl,rfl⟩) | (go_at_call 24;refine (adL _).mono ?_;rintro e w' ⟨rfl,rfl⟩))
 go_ret
 obtain ⟨wa,ha⟩:∃ wa,wa=w.alloc (.cells #[.string ⟨#[97]⟩,.int .i64 1,.string ⟨#[98]⟩,.int .i64 1,.string ⟨#[115]⟩,.int .i64 2] 42):=⟨_,rfl⟩
 rw [←ha]
 have hsa:wa.heap.size=w.heap.size+1:=by rw [ha];simp
 have ha0:wa.heap[w.heap.size]?=some (.cells #[.string ⟨#[97]⟩,.int .i64 1,.string ⟨#[98]⟩,.int .i64 1,.string ⟨#[115]⟩,.int .i64 2] 42 (0,0)):=by rw [ha];exact anm w _
 have hba:Below w.heap.size w wa:=by rw [ha];exact (anl _ _).alloc (ank _) _
 obtain ⟨wb,hb⟩:∃ wb,wb=wa.alloc (.cells #[.string ⟨#[97]⟩,.int .i64 1,.string ⟨#[99]⟩,.int .i64 1] 42):=⟨_,rfl⟩
 rw [←hb]
 have hsb:wb.heap.size=w.heap.size+2:=by rw [hb,World.size_alloc,hsa]
 have hb0:wb.heap[w.heap.size+1]?=some (.cells #[.string ⟨#[97]⟩,.int .i64 1,.string ⟨#[99]⟩,.int .i64 1] 42 (0,0)):=by rw [hb,←hsa];exact anm wa _
 have hbb:Below wa.heap.size wa wb:=by rw [hb];exact (anl _ _).alloc (ank _) _
 obtain ⟨wc,hc⟩:∃ wc,wc=wb.alloc (.cells #[.string ⟨#[116]⟩,.slice (some ⟨w.heap.size,0,none⟩) 3 3,.string ⟨#[117]⟩,.slice (some ⟨w.heap.size+1,0,none⟩) 2 2] 66):=⟨_,rfl⟩
 have hsc:wc.heap.size=w.heap.size+3:=by rw [hc,World.size_alloc,hsb]
 have hc0:wc.heap[w.heap.size+2]?=some (.cells #[.string ⟨#[116]⟩,.slice (some ⟨w.heap.size,0,none⟩) 3 3,.string ⟨#[117]⟩,.slice (some ⟨w.heap.size+1,0,none⟩) 2 2] 66 (0,0)):=by rw [hc,←hsb];exact anm wb _
 have hbc:Below wb.heap.size wb wc:=by rw [hc];exact (anl _ _).alloc (ank _) _
 have key:=X5 (S:=fun q=>w.heap.size≤q∧q<wc.heap.size) (((hbc.block _ (by omega)).trans (hbb.block _ (by omega))).trans ha0) ((hbc.block _ (by omega)).trans hb0) hc0 ⟨by omega,by omega⟩ ⟨by omega,by omega⟩ ⟨by omega,by omega⟩
 have kb:=(hba.trans (hbb.mono (by omega))).trans (hbc.mono (by omega))
 rw [hc] at key kb
 first
  | exact ⟨⟨by simp [hsa,hsb],key⟩,kb⟩
  | (simp only [hsa,hsb];exact ⟨⟨rfl,key⟩,kb⟩)
  | skip
theorem DJ (s:ByteArray)(w:World):Calls Tryz.prog 7 #[.string s] w fun e w'=>(∃ (a:PA)(p:P),e=.returned (p.val a)∧jS w' (fun k=>w.heap.size≤k∧k<w'.heap.size) p a∧(p=bW∨X3 p)∧∀ q,Hy s q→p=q)∧Below w.heap.size w w':=by
 obtain ⟨w1,aK⟩:∃ w1,w1=w.alloc (.cells #[.int .i64 0,.string ⟨#[]⟩,.slice none 0 0,.slice none 0 0,.slice none 0 0,.slice none 0 0,.slice none 0 0,.slice none 0 0] 27):=⟨_,rfl⟩
 have HB1:Hid (Below w.heap.size w w1):=anc (by rw [aK];exact (anl _ _).alloc (ank _) _)
 have hs1:w.heap.size<w1.heap.size:=by rw [aK];simp
 have gU:Hid (w1.heap[w.heap.size]?=some (.cells #[.int .i64 0,.string ⟨#[]⟩,.slice none 0 0,.slice none 0 0,.slice none 0 0,.slice none 0 0,.slice none 0 0,.slice none 0 0] 27 (0,0))):=anc (by rw [aK];exact anm w _)
 have HW1:=anc aK
 clear aK
 go_enter Tryz.func7,Tryz.ntmps7
 go_upto_region 1 with (fail)
 rw [←HW1.out]
 go_wp2_with fail
 refine (J7 s w1).mono ?_
 rintro e w2 ⟨⟨a,p,why,at_,rfl,hA,hp⟩,hb2⟩
 have HP:Hid ((p=bW∨X3 p)∧∀ q,Hy s q→p=q):=anc hp
 have HA:=anc hA
 have hs2:=hb2.size
 have HB2:=anc (HB1.out.trans (hb2.mono HB1.out.size))
 have dG:=anc ((hb2.block w.heap.size hs1).trans gU.out)
 obtain ⟨w3,lI⟩:∃ w3,w3=w2.alloc (.cells (P.bx p a) 27):=⟨_,rfl⟩
 have hb3:Below w2.heap.size w2 w3:=by rw [lI];exact (anl _ _).alloc (ank _) _
 have HN3:Hid (w3.heap[w2.heap.size]?=some (.cells (P.bx p a) 27 (0,0))):=anc (by rw [lI];exact anm w2 _)
 have HB3:=anc (HB2.out.trans (hb3.mono HB2.out.size))
 have mP:=anc ((hb3.block w.heap.size (by omega)).trans dG.out)
 have HA3:Hid (jS w3 (fun k=>w1.heap.size≤k∧k<w3.heap.size) p a):=anc ((hA.kept fun k hk=>hb3.block k hk.2).mono fun k hk=>⟨hk.1,anp hk.2 hb3.size⟩)
 have HW3:=anc lI
 clear hA hp hb2 lI hb3
 have HQ:Hid (∀ w',w'=rO w3 w.heap.size (.int .i64 p.k) (.string p.nm) (.slice a.ea p.ex.length a.ec) (.slice a.ca p.cols.length a.cc) (.slice a.la p.left.length a.lc) (.slice a.ra p.right.length a.rc) (.slice a.ga p.ag.length a.gc) (.slice a.ka p.kids.length a.kc)→(∃ (b:PA)(q:P),Ending.returned (.agg (P.bx p a))=.returned (q.val b)∧jS w' (fun k=>w.heap.size≤k∧k<w'.heap.size) q b∧(q=bW∨X3 q)∧∀ r,Hy s r→q=r)∧Below w.heap.size w w'):=anc (fun w' hw'=>by
  subst hw'
  exact ⟨⟨a,p,rfl,(HA3.out.kept fun k hk=>gz (by have:=hk.1;omega)).mono fun k hk=>⟨by have:=hk.1;omega,by rw [kC];exact hk.2⟩,HP.out⟩,dE HB3.out (ank _)⟩)
 clear HP HA HA3
 simp only [P.bx,P.val] at HN3 HW3 HQ ⊢
 generalize p.k=xk at *
 generalize p.nm=Kv at *
 generalize p.ex.length=x1 at *
 generalize p.cols.length=x2 at *
 generalize p.left.length=x3 at *
 generalize p.right.length=x4 at *
 generalize p.ag.length=x5 at *
 generalize p.kids.length=x6 at *
 obtain ⟨ea,ec,ca,cc,la,lc,ra,rc,ga,gc,ka,kc⟩:=a
 simp only at HN3 HW3 HQ ⊢
 obtain ⟨d0,d1,d2,d3,d4,d5,d6,d7,f0,f1,f2,f3,f4,f5,f6,f7⟩:=az mP.out
 obtain ⟨y0,y1,y2,y3,y4,y5,y6,y7,g0,g1,g2,g3,g4,g5,g6,g7⟩:=az HN3.out
 go_upto_region 2 with (fail)
 rw [←HW3.out]
 go_wp2_with fail
 refine ano (mi rfl rfl (di mP.out)) rfl ?_
 exact HQ.out _ rfl
theorem aa1 (s:ByteArray)(w:World):Calls Tryz.prog 7 #[.string s] w fun e w'=>(∃ (a:PA)(p:P),e=.returned (p.val a)∧jS w' (fun k=>w.heap.size≤k∧k<w'.heap.size) p a∧(p=bW∨X3 p))∧Below w.heap.size w w' :=
 (DJ s w).mono fun _ _ ⟨⟨a,p,h1,h2,h3,_⟩,hb⟩=>⟨⟨a,p,h1,h2,h3⟩,hb⟩
theorem H8 {w:World} {b:Nat} {cs:Array Value} {t:TypeId} (hb:w.heap[b]?=some (.cells cs t (0,0))) {j:Nat} {u:Value} (hj:cs.toList[j]?=some u):w.cell? ⟨b,j,none⟩=some u:=by
 simp only [World.cell?,hb]
 simpa using hj
theorem OT {w:World} {S:Nat→Prop} {b:Nat} {p:P} {a:PA} {t:TypeId} (hb:w.heap[b]?=some (.cells (P.bx p a) t (0,0)))(hS:S b)(hA:jS w S p a):yQ w S (some ⟨b,0,none⟩) [p]:=by
 have hone:∀ (i:Nat)(q:P),[p][i]?=some q→i=0∧q=p:=fun i q hq=>by
  cases i with
  | zero=>exact ⟨rfl,by simpa using hq.symm⟩
  | succ i=>simp at hq
 refine .mk b 0 [p] (by simp) hS (fun _=>a) (fun i q hq j u hj=>?_) (fun i q hq=>?_) (fun i q hq=>?_)
 ·obtain ⟨rfl,rfl⟩:=hone i q hq
  rw [Nat.zero_mul,Nat.zero_add]
  exact H8 hb hj
 ·obtain ⟨rfl,rfl⟩:=hone i q hq
  exact hA.parts
 ·obtain ⟨rfl,rfl⟩:=hone i q hq
  exact hA.kids
theorem X6 {w:World} {S:Nat→Prop} {b:Nat} {p:P} {a:PA} {t:TypeId} (hb:w.heap[b]?=some (.cells (P.bx p a++P.bx p a) t (0,0)))(hS:S b)(hA:jS w S p a):yQ w S (some ⟨b,0,none⟩) [p,p]:=by
 have hone:∀ (i:Nat)(q:P),[p,p][i]?=some q→(i=0∨i=1)∧q=p:=fun i q hq=>by
  match i with
  | 0=>exact ⟨.inl rfl,by simpa using hq.symm⟩
  | 1=>exact ⟨.inr rfl,by simpa using hq.symm⟩
  | i+2=>simp at hq
 refine .mk b 0 [p,p] (by simp) hS (fun _=>a) (fun i q hq j u hj=>?_) (fun i q hq=>?_) (fun i q hq=>?_)
 ·obtain ⟨hi,rfl⟩:=hone i q hq
  have h8:(P.bx q a).toList.length=8:=rfl
  have hj':(P.bx q a).toList[j]?=some u:=hj
  have hjl:j<8:=by rw [←h8];exact (List.getElem?_eq_some_iff.1 hj').1
  rw [Nat.zero_add]
  refine H8 hb ?_
  rw [Array.toList_append]
  rcases hi with rfl | rfl
  ·rw [Nat.zero_mul,Nat.zero_add,List.getElem?_append_left (by omega)]
   exact hj'
  ·rw [List.getElem?_append_right (by omega),h8,show 1*8+j-8=j from by omega]
   exact hj'
 ·obtain ⟨_,rfl⟩:=hone i q hq
  exact hA.parts
 ·obtain ⟨_,rfl⟩:=hone i q hq
  exact hA.kids
theorem kF {c:C} (hn:nameB c.nm=true)(hk:jY c.k=true):∀ (l pre:List C),dh pre l=0→df (pre++l) c.nm=false→dh pre (l++[c])=0
 | [],pre,_,hf=>by
   rw [List.append_nil] at hf
   show dh pre [c]=0
   rw [dh,if_neg (by simp [hn,hk]),if_neg (by rw [hf];decide),dh]
 | x::l,pre,h,hf=>by
   rw [List.cons_append,dh]
   rw [dh] at h
   split at h
   ·exact absurd h (by decide)
   ·rename_i h1
    split at h
    ·exact absurd h (by decide)
    ·rename_i h2
     rw [if_neg h1,if_neg h2]
     exact kF hn hk l (pre++[x]) h (by rw [List.append_assoc];exact hf)
theorem oK {acc:List C} (h:dh [] acc=0)(ho:(eG acc).2.1=0):fK (eG acc).1=0:=by
 unfold eG at ho ⊢
 split at ho
 ·exact absurd ho (by simp [je])
 ·rename_i hc
  rw [if_neg hc]
  show fK acc=0
  unfold fK
  rw [if_neg (by simp only [Bool.or_eq_true,decide_eq_true_eq];exact hc)]
  exact h
theorem uV {dK:List C} (hK:∀ e,(ed dK e).2=0→jY (ed dK e).1=true):∀ (l:List (ByteArray×E))(acc:List C),(∀ x∈l,nameB x.1=true)→dh [] acc=0→(dR dK acc l).2.1=0→fK (dR dK acc l).1=0
 | [],acc,_,h,ho=>by rw [dR] at ho ⊢;exact oK h ho
 | (c,e)::r,acc,hn,h,ho=>by
   rw [dR] at ho ⊢
   split at ho
   ·rename_i h0
    rw [if_pos h0]
    split at ho
    ·exact absurd ho (by simp [je])
    ·rename_i hf
     rw [if_neg hf]
     exact uV hK r _ (fun x hx=>hn x (List.mem_cons_of_mem _ hx)) (kF (hn _ (List.mem_cons_self ..)) (hK e h0) acc [] h (by simpa using hf)) ho
   ·rename_i h0
    exact absurd ho h0
theorem tC {right:List ByteArray}:∀ (l acc:List C),(∀ x∈l,nameB x.nm=true∧jY x.k=true)→dh [] acc=0→(jO right acc l).2.1=0→fK (jO right acc l).1=0
 | [],acc,_,h,ho=>by rw [jO] at ho ⊢;exact oK h ho
 | c::r,acc,hn,h,ho=>by
   rw [jO] at ho ⊢
   split at ho
   ·rename_i h0
    rw [if_pos h0]
    exact tC r acc (fun x hx=>hn x (List.mem_cons_of_mem _ hx)) h ho
   ·rename_i h0
    rw [if_neg h0]
    split at ho
    ·exact absurd ho (by simp [je])
    ·rename_i hf
     rw [if_neg hf]
     have hc:=hn c (List.mem_cons_self ..)
     exact tC r _ (fun x hx=>hn x (List.mem_cons_of_mem _ hx)) (kF hc.1 hc.2 acc [] h (by simpa using hf)) ho
theorem wC:∀ (l pre:List C),dh pre l=0→∀ x∈l,nameB x.nm=true∧jY x.k=true
 | [],_,_,x,hx=>by cases hx
 | c::l,pre,h,x,hx=>by
   rw [dh] at h
   split at h
   ·exact absurd h (by decide)
   ·rename_i h1
    split at h
    ·exact absurd h (by decide)
    ·rcases List.mem_cons.1 hx with rfl | hx
     ·simpa using h1
     ·exact wC l _ h x hx
theorem J8 {l:List C} (h:fK l=0):dh [] l=0:=by
 unfold fK at h
 split at h
 ·exact absurd h (by decide)
 ·exact h
theorem H9 {a b:ByteArray} (h:a.toList=b.toList):a=b:=by
 rw [ByteArray.toList_eq,ByteArray.toList_eq] at h
 obtain ⟨⟨x⟩⟩:=a
 obtain ⟨⟨y⟩⟩:=b
 simp at h
 rw [h]
theorem Ia {α:Type} {p:α→Bool}:∀ (l:List α)(k:Nat),0≤idx p l k→∃ (i:Nat)(x:α),idx p l k=((k+i:Nat):Int)∧l[i]?=some x∧p x=true
 | [],k,h=>absurd h (by unfold idx;decide)
 | x::l,k,h=>by
   unfold idx at h ⊢
   cases hp:p x
   ·rw [hp] at h
    obtain ⟨i,y,h1,h2,h3⟩:=Ia l (k+1) (by simpa using h)
    exact ⟨i+1,y,by simp only [Bool.false_eq_true,if_false];rw [h1];congr 1;omega,h2,h3⟩
   ·exact ⟨0,x,by simp,rfl,hp⟩
theorem Ib {l:List C} {s:ByteArray} (h:df l s=true):ji l (dL l s)∈l∧(ji l (dL l s)).nm=s:=by
 unfold df at h
 have h0:0≤idx (C.mO s) l 0:=by simpa using h
 obtain ⟨j,x,h1,h2,h3⟩:=Ia l 0 h0
 have e:dL l s=(j:Int):=by unfold dL;rw [if_pos h0,h1];simp
 have e2:ji l (dL l s)=x:=by
  unfold ji
  rw [e,Int.toNat_natCast,List.getD_eq_getElem?_getD,h2]
  rfl
 rw [e2]
 exact ⟨anq h2,H9 (eq_of_beq h3)⟩
theorem DK {cols:List C}:∀ {l:List E},(∀ e∈l,(fM cols e).2=0→jY (fM cols e).1=true)→(iH cols l).2=0→∀ k∈(iH cols l).1,jY k=true
 | [],_,_,k,hk=>by rw [iH] at hk;cases hk
 | e::l,he,h,k,hk=>by
   rw [iH] at h hk
   split at h
   ·rename_i h0
    rw [if_pos h0] at hk
    rcases List.mem_cons.1 hk with rfl | hk
    ·exact he e (List.mem_cons_self ..) h0
    ·exact DK (fun x hx=>he x (List.mem_cons_of_mem _ hx)) h k hk
   ·rename_i h0
    exact absurd h h0
theorem Ic {op:List UInt8} {l:List Int} (h:∀ k∈l,jY k=true)(h0:0<dZ op l):jY (dZ op l)=true:=by
 unfold dZ at h0 ⊢
 split at h0
 ·rename_i c;rw [if_pos c];split at h0
  ·rename_i d;rw [if_pos d];rfl
  ·exact absurd h0 (by decide)
 ·rename_i c;rw [if_neg c]
  split at h0
  ·rename_i c;rw [if_pos c];split at h0
   ·rename_i d;rw [if_pos d];rfl
   ·exact absurd h0 (by decide)
  ·rename_i c;rw [if_neg c]
   split at h0
   ·rename_i c;rw [if_pos c];split at h0
    ·rename_i d;rw [if_pos d];rfl
    ·exact absurd h0 (by decide)
   ·rename_i c;rw [if_neg c]
    split at h0
    ·rename_i c;rw [if_pos c];split at h0
     ·rename_i d;rw [if_pos d];rw [List.getD_eq_getElem?_getD] at h0 ⊢
      cases hx:l[1]? with
      | none=>rw [hx] at h0;exact absurd h0 (by decide)
      | some x=>exact h x (anq hx)
     ·exact absurd h0 (by decide)
    ·rename_i c;rw [if_neg c];split at h0
     ·rename_i d;rw [if_pos d];rfl
     ·exact absurd h0 (by decide)
theorem NQ {cols:List C} (hI:∀ x∈cols,jY x.k=true):∀ e,(fM cols e).2=0→jY (fM cols e).1=true:=E.ind fun k s n l ih h=>by
 rw [fM] at h ⊢
 by_cases h1:k=1
 ·rw [if_pos h1] at h ⊢
  cases hf:df cols s
  ·rw [hf] at h;exact absurd h (by simp)
  ·rw [if_pos rfl]
   exact hI _ (Ib hf).1
 ·rw [if_neg h1] at h ⊢
  by_cases h2:k=2
  ·rw [if_pos h2];rfl
  ·rw [if_neg h2] at h ⊢
   by_cases h3:k=3
   ·rw [if_pos h3];rfl
   ·rw [if_neg h3] at h ⊢
    by_cases h4:(iH cols l).2=0
    ·rw [if_pos h4] at h ⊢
     by_cases h5:0<dZ s.toList (iH cols l).1
     ·rw [if_pos h5]
      exact Ic (DK ih h4) h5
     ·rw [if_neg h5] at h
      exact absurd h (by simp)
    ·rw [if_neg h4] at h
     exact absurd h h4
theorem Va {cols:List C} (hI:∀ x∈cols,jY x.k=true)(e:E)(h:(ed cols e).2=0):jY (ed cols e).1=true:=by
 unfold ed at h ⊢
 split at h
 ·rename_i hm
  rw [if_pos hm]
  exact NQ hI e h
 ·exact absurd h (by decide)
theorem qO {dK:List C} (hI:∀ x∈dK,nameB x.nm=true∧jY x.k=true):∀ (l:List Ag)(acc:List C),(∀ g∈l,nameB g.nm=true)→dh [] acc=0→(fJ dK acc l).2.1=0→fK (fJ dK acc l).1=0
 | [],acc,_,h,ho=>by rw [fJ] at ho ⊢;exact oK h ho
 | g::r,acc,hn,h,ho=>by
   rw [fJ] at ho ⊢
   have hg:=hn g (List.mem_cons_self ..)
   have hr:∀ g∈r,nameB g.nm=true:=fun x hx=>hn x (List.mem_cons_of_mem _ hx)
   split at ho
   ·exact absurd ho (by simp [je])
   ·rename_i hf
    rw [if_neg hf]
    have hf':df acc g.nm=false:=by simpa using hf
    split at ho
    ·rename_i hc
     rw [if_pos hc]
     exact qO hI r _ hr (kF hg rfl acc [] h hf') ho
    ·rename_i hc
     rw [if_neg hc]
     split at ho
     ·exact absurd ho (by simp [je])
     ·rename_i hq
      rw [if_neg hq]
      split at ho
      ·exact absurd ho (by simp [je])
      ·rename_i hs
       rw [if_neg hs]
       exact qO hI r _ hr (kF (c:=⟨g.nm,(ji dK (dL dK g.vw)).k⟩) hg (hI _ (Ib (by simpa using hq)).1).2 acc [] h hf') ho
theorem yE {dK:List C} (hI:∀ x∈dK,nameB x.nm=true∧jY x.k=true) {ag:List Ag} (hag:∀ g∈ag,nameB g.nm=true):∀ (l:List ByteArray)(acc:List C),dh [] acc=0→(iU dK ag acc l).2.1=0→fK (iU dK ag acc l).1=0
 | [],acc,h,ho=>by rw [iU] at ho ⊢;exact qO hI ag acc hag h ho
 | s::r,acc,h,ho=>by
   rw [iU] at ho ⊢
   split at ho
   ·exact absurd ho (by simp [je])
   ·rename_i hq
    rw [if_neg hq]
    split at ho
    ·exact absurd ho (by simp [je])
    ·rename_i hf
     rw [if_neg hf]
     obtain ⟨h1,h2⟩:=Ib (l:=dK) (s:=s) (by simpa using hq)
     exact yE hI hag r _ (kF (hI _ h1).1 (hI _ h1).2 acc [] h (by rw [List.nil_append,h2];simpa using hf)) ho
theorem Q5 {D:List DM} (hD:∀ d∈D,fK d.cols=0) {nm:ByteArray} (h:(Em D nm).2.1=0):fK (Em D nm).1=0:=by
 unfold Em at h ⊢
 split at h
 ·exact absurd h (by simp [je])
 ·rename_i hi
  rw [if_neg hi]
  obtain ⟨i,x,h1,h2,_⟩:=Ia D 0 (Int.not_lt.1 hi)
  show fK (D.getD (idx (DM.mO nm) D 0).toNat _).cols=0
  rw [h1,Int.toNat_natCast,Nat.zero_add,List.getD_eq_getElem?_getD,h2]
  exact hD x (anq h2)
theorem F5 (a:List C):∀ (l r:List C),(iy a l r).2.1=0→iy a l r=(a,0,⟨#[]⟩)
 | [],_,_=>by rw [iy];intro _ _ _ _ h;cases h
 | _::_,[],_=>by rw [iy];intro _ _ _ _ _ h;cases h
 | x::l,y::r,h=>by
   rw [iy] at h ⊢
   split at h
   ·rename_i hk
    rw [if_pos hk]
    exact F5 a l r h
   ·exact absurd h (by simp [je])
theorem Q7 {a b:List C} (h:(lC a b).2.1=0):lC a b=(a,0,⟨#[]⟩):=by
 unfold lC at h ⊢
 split at h
 ·rename_i hl
  rw [if_pos hl]
  exact F5 a a b h
 ·exact absurd h (by simp [je])
theorem Au (a:List C):∀ l:List C,iy a l l=(a,0,⟨#[]⟩)
 | []=>by rw [iy];intro _ _ _ _ h;cases h
 | x::l=>by rw [iy,if_pos rfl];exact Au a l
theorem J9 (a:List C):lC a a=(a,0,⟨#[]⟩):=by
 unfold lC
 rw [if_pos rfl]
 exact Au a a
theorem NR {a b:List C} {l r:List ByteArray} (ha:dh [] a=0)(hb:dh [] b=0)(h:(uQ a b l r).2.1=0):fK (uQ a b l r).1=0:=by
 unfold uQ at h ⊢
 split at h
 ·exact absurd h (by simp [je])
 ·rename_i h1
  rw [if_neg h1]
  split at h
  ·rename_i h2
   rw [if_pos h2]
   exact tC b a (wC b [] hb) ha h
  ·rename_i h2
   exact absurd h h2
theorem NS {D:List DM} (hD:∀ d∈D,fK d.cols=0) {k:Int} {nm:ByteArray} {ex:List E} {cols left right:List ByteArray} {ag:List Ag} {a b:List C} (hn:∀ x∈cols,nameB x=true)(hg:∀ g∈ag,nameB g.nm=true)(ha:k≠1→fK a=0)(hb:k=4→fK b=0)
 (h:(JA D k nm ex cols left right ag a b).2.1=0):fK (JA D k nm ex cols left right ag a b).1=0:=by
 unfold JA at h ⊢
 split at h
 ·rename_i h1
  rw [if_pos h1]
  exact Q5 hD h
 ·rename_i h1
  rw [if_neg h1]
  have ha:=ha h1
  have har:=J8 ha
  have hal:=wC a [] har
  split at h
  ·rename_i h2
   rw [if_pos h2]
   exact ha
  ·rename_i h2
   rw [if_neg h2]
   split at h
   ·rename_i h3
    rw [if_pos h3]
    refine uV (fun e he=>Va (fun x hx=>(hal x hx).2) e he) _ [] (fun x hx=>hn x.1 (List.of_mem_zip hx).1) (by rw [dh]) h
   ·rename_i h3
    rw [if_neg h3]
    split at h
    ·rename_i h4
     rw [if_pos h4]
     exact NR har (J8 (hb h4)) h
    ·rename_i h4
     rw [if_neg h4]
     split at h
     ·rename_i h5
      rw [if_pos h5,Q7 h]
      exact ha
     ·rename_i h5
      rw [if_neg h5]
      split at h
      ·rename_i h7
       rw [if_pos h7]
       exact yE hal hg _ [] (by rw [dh]) h
      ·rename_i h7
       rw [if_neg h7]
       exact ha
theorem X7 {l:List wY} (h:badR l=none):∀ (i:Nat)(r:wY),l[i]?=some r→r.2.1=0:=by
 induction l with
 | nil=>intro i r hr;simp at hr
 | cons x l ih =>
   rw [badR] at h
   split at h
   ·rename_i h0
    intro i r hr
    cases i with
    | zero=>obtain rfl:x=r:=by simpa using hr
            exact h0
    | succ i=>exact ih h i r (by simpa using hr)
   ·cases h
theorem Vb {l:List wY} {r:Int×ByteArray} (h:badR l=some r):r.1≠0:=by
 induction l with
 | nil=>cases h
 | cons x l ih =>
   rw [badR] at h
   split at h
   ·exact ih h
   ·rename_i h0
    obtain rfl:=Option.some.inj h
    exact h0
theorem NT {D:List DM} (hD:∀ d∈D,fK d.cols=0):∀ p,fH p→(bZ D p).2.1=0→fK (bZ D p).1=0:=P.ind fun k nm ex cols left right ag kids ih hg h=>by
 obtain ⟨_,_,_,_,_,_,_,_,h1,h7,hm,hx,h3,hc,hn,hga,hkn,hs,ll,lr,le,la,hk⟩:=hg
 rw [bZ,ni,yh] at h ⊢
 split at h
 ·rename_i r hr
  exact absurd h (Vb hr)
 ·rename_i hr
  have adM:∀ i,i<kids.length→fK (uM (kids.map (bZ D)) i)=0:=fun i hi=>by
   have he:(kids.map (bZ D))[i]?=some (bZ D kids[i]):=by rw [List.getElem?_map,anr hi];rfl
   unfold uM
   rw [List.getD_eq_getElem?_getD,he]
   exact ih _ (List.getElem_mem hi) (hk _ (List.getElem_mem hi)) (X7 hr i _ he)
  refine NS hD hn hga (fun hk1=>adM 0 ?_) (fun hk4=>adM 1 ?_) h
  ·rw [hkn];unfold aJ;repeat' split
   all_goals omega
  ·rw [hkn,hk4];decide
def yF:E:=.mk 2 ⟨#[]⟩ 1 []
def tH (p:P):P:=.mk 2 ⟨#[]⟩ [yF] [] [] [] [] [p]
def tJ (p:P):P:=.mk 6 ⟨#[]⟩ [] [] [] [] [] [p]
def tK (p:P):P:=.mk 5 ⟨#[]⟩ [] [] [] [] [] [p,p]
theorem wE {D:List DM} {p:P} (h:(bZ D p).2.1=0):bZ D (tH p)=((bZ D p).1,0,⟨#[]⟩)∧bZ D (tJ p)=((bZ D p).1,0,⟨#[]⟩)∧bZ D (tK p)=((bZ D p).1,0,⟨#[]⟩):=by
 refine ⟨?_,?_,?_⟩
 ·rw [tH,bZ,qV,qV,yh,badR,if_pos h,badR]
  show FT (bZ D p).1 yF=_
  unfold FT
  rw [show ed (bZ D p).1 yF=(1,0) from by unfold ed;rw [if_pos (by first | rfl | decide | kernel_rfl)];unfold yF;rw [fM];rfl]
  rfl
 ·rw [tJ,bZ,qV,qV,yh,badR,if_pos h,badR]
  rfl
 ·rw [tK,bZ,qV,qV,qV,yh,badR,if_pos h,badR,if_pos h,badR]
  exact J9 _
theorem DL (s:ByteArray):oM (fE s):=.mk _ _ _ _ _ (by decide) (by decide) (fun h=>absurd h (by decide)) (fun h=>absurd h (by decide))
theorem X8:oM (dm yF):=by
 show oM (.mk 3 ⟨#[]⟩ 1 [] 0)
 exact .mk _ _ _ _ _ (by decide) (by decide) (fun h=>absurd h (by decide)) (fun h=>absurd h (by decide))
theorem join_le:∀ l:List (List UInt8),(Lib.join l [32]).length≤(l.map (fun x=>x.length+1)).sum
 | []=>by simp [Lib.join]
 | [a]=>by simp [Lib.join]
 | a::b::l=>by
   have h:=join_le (b::l)
   have e:Lib.join (a::b::l) [32]=a++([32]++Lib.join (b::l) [32]):=by
    first
     | rfl
     | simp [Lib.join,List.intercalate,List.intersperse]
     | (unfold Lib.join List.intercalate;simp)
   rw [e,List.map_cons,List.sum_cons,List.length_append,List.length_append]
   have h1:([32]:List UInt8).length=1:=rfl
   omega
theorem Vd {p:P} (h:oM (aV p))(hs:(dH (aV p)).length≤600):oM (aV (tH p)):=by
 have e:aV (tH p)=kP [fE ⟨iK.toArray⟩,dm yF,aV p]:=by
  rw [tH,aV,iF,iF,if_neg (by decide)]
  rfl
 rw [e]
 refine .mk _ _ _ _ _ (by decide) (by decide) (fun _=>⟨by simp,?_⟩) (fun _ x hx=>?_)
 ·refine anv (join_le _) ?_
  have h1:(dH (fE ⟨iK.toArray⟩)).length=6:=by rw [fE,dH];rfl
  have h2:(dH (dm yF)).length=1:=by first | rfl | decide | kernel_rfl
  simp only [gp,List.map_cons,List.map_nil,List.sum_cons,List.sum_nil,h1,h2]
  omega
 ·simp only [List.mem_cons,List.not_mem_nil,or_false] at hx
  rcases hx with rfl | rfl | rfl
  ·exact DL _
  ·exact X8
  ·exact h
theorem Ve {p:P} (h:oM (aV p))(hs:(dH (aV p)).length≤600):oM (aV (tJ p)):=by
 have e:aV (tJ p)=kP [fE ⟨dW.toArray⟩,aV p]:=by
  rw [tJ,aV,iF,iF,if_neg (by decide)]
  rfl
 rw [e]
 refine .mk _ _ _ _ _ (by decide) (by decide) (fun _=>⟨by simp,?_⟩) (fun _ x hx=>?_)
 ·refine anv (join_le _) ?_
  have h1:(dH (fE ⟨dW.toArray⟩)).length=8:=by rw [fE,dH];rfl
  simp only [gp,List.map_cons,List.map_nil,List.sum_cons,List.sum_nil,h1]
  omega
 ·simp only [List.mem_cons,List.not_mem_nil,or_false] at hx
  rcases hx with rfl | rfl
  ·exact DL _
  ·exact h
theorem Vf {p:P} (h:oM (aV p))(hs:(dH (aV p)).length≤600):oM (aV (tK p)):=by
 have e:aV (tK p)=kP [fE ⟨jJ.toArray⟩,aV p,aV p]:=by
  rw [tK,aV,iF,iF,iF,if_neg (by decide)]
  rfl
 rw [e]
 refine .mk _ _ _ _ _ (by decide) (by decide) (fun _=>⟨by simp,?_⟩) (fun _ x hx=>?_)
 ·refine anv (join_le _) ?_
  have h1:(dH (fE ⟨jJ.toArray⟩)).length=5:=by rw [fE,dH];rfl
  simp only [gp,List.map_cons,List.map_nil,List.sum_cons,List.sum_nil,h1]
  omega
 ·simp only [List.mem_cons,List.not_mem_nil,or_false] at hx
  rcases hx with rfl | rfl | rfl
  ·exact DL _
  ·exact h
  ·exact h
theorem DN {p:P} (h:X3 p):(dH (aV p)).length≤600:=by
 have:=h.size
 unfold qJ at this
 simpa [ByteArray.size] using this
theorem Q8 {p:P} (h:fH p):fH (tH p) :=
 .mk _ _ _ _ _ _ _ _ (by decide) (by decide) (fun e he=>by
  obtain rfl:e=yF:=by simpa using he
  exact ⟨.mk _ _ _ _ (by decide) (by decide) (by decide) (fun x hx=>by cases hx),.num 1⟩) (fun _=>rfl) (fun e=>absurd e (by decide)) (by simp) (fun x hx=>by cases hx) (fun x hx=>by cases hx) rfl (fun x hx=>by cases hx) (by simp) (by simp) (by simp) (by simp) (fun q hq=>by
  obtain rfl:q=p:=by simpa using hq
  exact h)
theorem Q9 {p:P} (h:fH p):fH (tJ p) :=
 .mk _ _ _ _ _ _ _ _ (by decide) (by decide) (fun e he=>by cases he) (fun e=>absurd e (by decide)) (fun e=>absurd e (by decide)) (by simp) (fun x hx=>by cases hx) (fun x hx=>by cases hx) rfl (fun x hx=>by cases hx) (by simp) (by simp) (by simp) (by simp) (fun q hq=>by
  obtain rfl:q=p:=by simpa using hq
  exact h)
theorem Rf {p:P} (h:fH p):fH (tK p) :=
 .mk _ _ _ _ _ _ _ _ (by decide) (by decide) (fun e he=>by cases he) (fun e=>absurd e (by decide)) (fun e=>absurd e (by decide)) (by simp) (fun x hx=>by cases hx) (fun x hx=>by cases hx) rfl (fun x hx=>by cases hx) (by simp) (by simp) (by simp) (by simp) (fun q hq=>by
  obtain rfl:q=p:=by simpa using hq
  exact h)
theorem Vg {p:P} (h:X3 p):(fH (tH p)∧oM (aV (tH p)))∧(fH (tJ p)∧oM (aV (tJ p)))∧(fH (tK p)∧oM (aV (tK p))) :=
 ⟨⟨Q8 h.good,Vd h.prn (DN h)⟩,⟨Q9 h.good,Ve h.prn (DN h)⟩,⟨Rf h.good,Vf h.prn (DN h)⟩⟩
theorem X9 (n m:Nat)(nm:ByteArray):Em (oO n) nm=Em (oO m) nm:=by
 unfold Em oO
 have e:∀ q:Nat,idx (DM.mO nm) [⟨⟨#[116]⟩,some ⟨q,0,none⟩,3,Rx⟩,⟨⟨#[117]⟩,some ⟨q+1,0,none⟩,2,ckU⟩] 0=if ((⟨#[116]⟩:ByteArray).toList==nm.toList)=true then 0 else if ((⟨#[117]⟩:ByteArray).toList==nm.toList)=true then 1 else -1:=fun q=>by
  simp only [idx,DM.mO]
  rfl
 rw [e n,e m]
 by_cases h1:((⟨#[116]⟩:ByteArray).toList==nm.toList)=true
 ·rw [if_pos h1];rfl
 ·rw [if_neg h1]
  by_cases h2:((⟨#[117]⟩:ByteArray).toList==nm.toList)=true
  ·rw [if_pos h2];rfl
  ·rw [if_neg h2];rfl
theorem Ko (n m:Nat):∀ p,bZ (oO n) p=bZ (oO m) p:=P.ind fun k nm ex cols left right ag kids ih=>by
 have e:kids.map (bZ (oO n))=kids.map (bZ (oO m)):=List.map_congr_left fun x hx=>ih x hx
 rw [bZ,bZ,ni,ni,e]
 unfold yh JA
 rw [X9 n m]
def jL (p:P):List P:=[tH p,tJ p,tK p]
def OU (b0 b1 b2 b3:Nat):Array Value:=#[.int .i64 2,.string ⟨#[]⟩,.slice (some ⟨b0,0,none⟩) 1 1,.slice none 0 0,.slice none 0 0,.slice none 0 0,.slice none 0 0,.slice (some ⟨b1,0,none⟩) 1 1,.int .i64 6,.string ⟨#[]⟩,.slice none 0 0,.slice none 0 0,.slice none 0 0,.slice none 0 0,.slice none 0 0,.slice (some ⟨b2,0,none⟩) 1 1,.int .i64 5,.string ⟨#[]⟩,.slice none 0 0,.slice none 0 0,.slice none 0 0,.slice none 0 0,.slice none 0 0,.slice (some ⟨b3,0,none⟩) 2 2]
def aa2 (b0 b1 b2 b3:Nat):Nat→PA
 | 0=>⟨some ⟨b0,0,none⟩,1,none,0,none,0,none,0,none,0,some ⟨b1,0,none⟩,1⟩
 | 1=>⟨none,0,none,0,none,0,none,0,none,0,some ⟨b2,0,none⟩,1⟩
 | _=>⟨none,0,none,0,none,0,none,0,none,0,some ⟨b3,0,none⟩,2⟩
theorem tN {w:World} {b:Nat} {u:Obj} (h:w.heap[b]?=some u):LT w b:=(Array.getElem?_eq_some_iff.1 h).1
def P.bx2 (p:P)(a:PA):Array Value:=#[.int .i64 p.k,.string p.nm,.slice a.ea p.ex.length a.ec,.slice a.ca p.cols.length a.cc,.slice a.la p.left.length a.lc,.slice a.ra p.right.length a.rc,.slice a.ga p.ag.length a.gc,.slice a.ka p.kids.length a.kc,.int .i64 p.k,.string p.nm,.slice a.ea p.ex.length a.ec,.slice a.ca p.cols.length a.cc,.slice a.la p.left.length a.lc,.slice a.ra p.right.length a.rc,.slice a.ga p.ag.length a.gc,.slice a.ka p.kids.length a.kc]
theorem Rh (w:World)(E P1 P2 P3 T:Obj)(h:World)(e:h=((((w.alloc E).alloc P1).alloc P2).alloc P3).alloc T) :
 h.heap[w.heap.size]?=some E∧h.heap[w.heap.size+1]?=some P1∧h.heap[w.heap.size+1+1]?=some P2∧h.heap[w.heap.size+1+1+1]?=some P3∧h.heap[w.heap.size+1+1+1+1]?=some T∧Below w.heap.size w h:=by
 subst e
 have hA:∀ (v:World)(X:Obj)(k:Nat)(u:Obj),v.heap[k]?=some u→(v.alloc X).heap[k]?=some u:=fun v X k u hk =>
  (((anl v.heap.size v).alloc (ank _) X).block k (Array.getElem?_eq_some_iff.1 hk).1).trans hk
 have h0:=anm w E
 have h1:=anm (w.alloc E) P1
 have h2:=anm ((w.alloc E).alloc P1) P2
 have h3:=anm (((w.alloc E).alloc P1).alloc P2) P3
 have h4:=anm ((((w.alloc E).alloc P1).alloc P2).alloc P3) T
 simp only [World.size_alloc] at h1 h2 h3 h4
 exact ⟨hA _ _ _ _ (hA _ _ _ _ (hA _ _ _ _ (hA _ _ _ _ h0))),hA _ _ _ _ (hA _ _ _ _ (hA _ _ _ _ h1)),hA _ _ _ _ (hA _ _ _ _ h2),hA _ _ _ _ h3,h4,
  (((((anl _ _).alloc (ank _) _).alloc (by simp) _).alloc (by simp;omega) _).alloc (by simp;omega) _).alloc (by simp;omega) _⟩
theorem Vh {w:World} {p:P} {a:PA} (hA:jS w (LT w) p a) {b0 b1 b2 b3 b4:Nat} {t0 t1 t2 t3 t4:TypeId}
 (h0:w.heap[b0]?=some (.cells #[.int .i64 2,.string ⟨#[]⟩,.int .i64 1,.slice none 0 0] t0 (0,0)))
 (h1:w.heap[b1]?=some (.cells (P.bx p a) t1 (0,0)))(h2:w.heap[b2]?=some (.cells (P.bx p a) t2 (0,0)))
 (h3:w.heap[b3]?=some (.cells (P.bx2 p a) t3 (0,0)))(h4:w.heap[b4]?=some (.cells (OU b0 b1 b2 b3) t4 (0,0))) :
 yQ w (LT w) (some ⟨b4,0,none⟩) (jL p):=by
 have hth:∀ (i:Nat)(q:P),(jL p)[i]?=some q→(i=0∧q=tH p)∨(i=1∧q=tJ p)∨(i=2∧q=tK p):=fun i q hq=>by
  match i with
  | 0=>exact .inl ⟨rfl,by simpa [jL] using hq.symm⟩
  | 1=>exact .inr (.inl ⟨rfl,by simpa [jL] using hq.symm⟩)
  | 2=>exact .inr (.inr ⟨rfl,by simpa [jL] using hq.symm⟩)
  | i+3=>simp [jL] at hq
 refine .mk b4 0 (jL p) (by simp [jL]) (tN h4) (aa2 b0 b1 b2 b3) (fun i q hq j u hj=>?_) (fun i q hq=>?_) (fun i q hq=>?_)
 ·refine H8 h4 ?_
  rcases hth i q hq with ⟨rfl,rfl⟩ | ⟨rfl,rfl⟩ | ⟨rfl,rfl⟩
  ·match j,hj with
   | 0,hj=>exact hj
   | 1,hj=>exact hj
   | 2,hj=>exact hj
   | 3,hj=>exact hj
   | 4,hj=>exact hj
   | 5,hj=>exact hj
   | 6,hj=>exact hj
   | 7,hj=>exact hj
   | j+8,hj=>simp [P.cs] at hj
  ·match j,hj with
   | 0,hj=>exact hj
   | 1,hj=>exact hj
   | 2,hj=>exact hj
   | 3,hj=>exact hj
   | 4,hj=>exact hj
   | 5,hj=>exact hj
   | 6,hj=>exact hj
   | 7,hj=>exact hj
   | j+8,hj=>simp [P.cs] at hj
  ·match j,hj with
   | 0,hj=>exact hj
   | 1,hj=>exact hj
   | 2,hj=>exact hj
   | 3,hj=>exact hj
   | 4,hj=>exact hj
   | 5,hj=>exact hj
   | 6,hj=>exact hj
   | 7,hj=>exact hj
   | j+8,hj=>simp [P.cs] at hj
 ·rcases hth i q hq with ⟨rfl,rfl⟩ | ⟨rfl,rfl⟩ | ⟨rfl,rfl⟩
  ·exact ⟨zA (e:=yF) (A:=none) (c:=0) h0 (tN h0) (.nil none),.nil_ _ _ _,.nil_ _ _ _,.nil_ _ _ _,.nil_ _ _ _,(by show 1≤9223372036854775807;decide),Nat.zero_le _,⟨Nat.zero_le _,Nat.zero_le _⟩,⟨Nat.zero_le _,Nat.zero_le _⟩,Nat.zero_le _⟩
  ·exact ⟨.nil none,.nil_ _ _ _,.nil_ _ _ _,.nil_ _ _ _,.nil_ _ _ _,Nat.zero_le _,Nat.zero_le _,⟨Nat.zero_le _,Nat.zero_le _⟩,⟨Nat.zero_le _,Nat.zero_le _⟩,Nat.zero_le _⟩
  ·exact ⟨.nil none,.nil_ _ _ _,.nil_ _ _ _,.nil_ _ _ _,.nil_ _ _ _,Nat.zero_le _,Nat.zero_le _,⟨Nat.zero_le _,Nat.zero_le _⟩,⟨Nat.zero_le _,Nat.zero_le _⟩,Nat.zero_le _⟩
 ·rcases hth i q hq with ⟨rfl,rfl⟩ | ⟨rfl,rfl⟩ | ⟨rfl,rfl⟩
  ·exact OT h1 (tN h1) hA
  ·exact OT h2 (tN h2) hA
  ·exact X6 (by rw [h3];rfl) (tN h3) hA
theorem Ri {p:P} (h:X3 p) {n:Nat} (ho:(bZ (oO n) p).2.1=0) {l:List C} (hl:l=(bZ (oO n) p).1) {i:Nat} {q:P} (hq:(jL p)[i]?=some q):(fH q∧oM (aV q))∧∀ m,bZ (oO m) q=(l,0,⟨#[]⟩):=by
 have ho':∀ m,(bZ (oO m) p).2.1=0:=fun m=>by rw [Ko m n];exact ho
 have hl':∀ m,(bZ (oO m) p).1=l:=fun m=>by rw [Ko m n];exact hl.symm
 have hk:=Vg h
 match i,hq with
 | 0,hq =>
   obtain rfl:tH p=q:=by simpa [jL] using hq
   exact ⟨hk.1,fun m=>by rw [(wE (ho' m)).1,hl']⟩
 | 1,hq =>
   obtain rfl:tJ p=q:=by simpa [jL] using hq
   exact ⟨hk.2.1,fun m=>by rw [(wE (ho' m)).2.1,hl']⟩
 | 2,hq =>
   obtain rfl:tK p=q:=by simpa [jL] using hq
   exact ⟨hk.2.2,fun m=>by rw [(wE (ho' m)).2.2,hl']⟩
 | i+3,hq=>simp [jL] at hq
@[go_sem] theorem YP (op:BinOp)(x y:Operand)(xs ys:Array Value)(w:World):(eqGuard op 114 x y (.agg xs) (.agg ys)).run Tryz.prog w=.ok () w:=run_eqGuard_agg w op _ x y xs ys (by kernel_rfl)
@[go_sem] theorem aby (xk xn yk yn:Int)(xs ys:ByteArray)(w:World) :
   (binOp .neq 114 (.agg #[.int .i64 xk,.int .i64 xn,.string xs]) (.agg #[.int .i64 yk,.int .i64 yn,.string ys])).run Tryz.prog w=.ok (.bool (!(xk==yk&&(xn==yn&&xs.toList==ys.toList)))) w:=by
  have hS:Tryz.prog.underlying 114=some (.struct (Tryz.prog.fieldsOf 114)):=by kernel_rfl
  have hp:Tryz.prog.stoodInHeld 114=false:=by kernel_rfl
  have u1:=Tryz.underlying3
  have u2:=Tryz.underlying2
  have u3:=Tryz.underlying9
  rw [run_neq_struct,show (10000:Nat)=9999+1 from rfl,run_equalIn_agg w 9999 _ _ _ hS hp]
  simp only [Program.fieldsOf,Tryz.underlying114]
  go_simp
  by_cases h1:xk=yk <;> by_cases h2:xn=yn <;> by_cases h3:xs.toList=ys.toList <;> simp [h1,h2,h3]
@[go_sem] theorem abz (xk xn yk yn:Int)(xs ys:ByteArray)(w:World) :
   (binOp .eql 114 (.agg #[.int .i64 xk,.int .i64 xn,.string xs]) (.agg #[.int .i64 yk,.int .i64 yn,.string ys])).run Tryz.prog w=.ok (.bool (xk==yk&&(xn==yn&&xs.toList==ys.toList))) w:=by
  have hS:Tryz.prog.underlying 114=some (.struct (Tryz.prog.fieldsOf 114)):=by kernel_rfl
  have hp:Tryz.prog.stoodInHeld 114=false:=by kernel_rfl
  have u1:=Tryz.underlying3
  have u2:=Tryz.underlying2
  have u3:=Tryz.underlying9
  rw [run_eql_struct,show (10000:Nat)=9999+1 from rfl,run_equalIn_agg w 9999 _ _ _ hS hp]
  simp only [Program.fieldsOf,Tryz.underlying114]
  go_simp
  by_cases h1:xk=yk <;> by_cases h2:xn=yn <;> by_cases h3:xs.toList=ys.toList <;> simp [h1,h2,h3]
@[go_sem] theorem abA (op:BinOp)(x y:Operand)(xs ys:Array Value)(w:World):(eqGuard op 42 x y (.agg xs) (.agg ys)).run Tryz.prog w=.ok () w:=run_eqGuard_agg w op _ x y xs ys (by kernel_rfl)
@[go_sem] theorem aes (xn yn:ByteArray)(xk yk:Int)(w:World) :
   (binOp .neq 42 (.agg #[.string xn,.int .i64 xk]) (.agg #[.string yn,.int .i64 yk])).run Tryz.prog w=.ok (.bool (!(xn.toList==yn.toList&&xk==yk))) w:=by
  have hS:Tryz.prog.underlying 42=some (.struct (Tryz.prog.fieldsOf 42)):=by kernel_rfl
  have hp:Tryz.prog.stoodInHeld 42=false:=by kernel_rfl
  have u1:=Tryz.underlying3
  have u3:=Tryz.underlying9
  rw [run_neq_struct,show (10000:Nat)=9999+1 from rfl,run_equalIn_agg w 9999 _ _ _ hS hp]
  simp only [Program.fieldsOf,Tryz.underlying42]
  go_simp
  by_cases h1:xk=yk <;> by_cases h3:xn.toList=yn.toList <;> simp [h1,h3]
theorem kG.get {w:World} {B:Nat} {A:Option Addr} {l:List C} (h:kG w B A l) {i:Nat} {x:C} (hx:l[i]?=some x):∃ b off,A=some ⟨b,off,none⟩∧b<B∧w.cell? ⟨b,off+i*2,none⟩=some (.string x.nm)∧w.cell? ⟨b,off+i*2+1,none⟩=some (.int .i64 x.k):=by
 rcases h with rfl | ⟨b,off,e,hb,h⟩
 ·simp at hx
 ·exact ⟨b,off,e,hb,h i x hx⟩
theorem uX (A D:Option Addr)(c d:Nat)(l:List C)(hl:l.length≤1000000)(w:World)(hA:kG w w.heap.size A l)(hD:kG w w.heap.size D l) :
 Calls Tryz.prog 12 #[.slice A l.length c,.slice D l.length d] w fun e w'=>e=.returned (.bool true)∧Below w.heap.size w w':=by
 obtain ⟨n,hn⟩:∃ n,l.length=n:=⟨_,rfl⟩
 have HN:=anc hn
 have HA:=anc hA
 have HD:=anc hD
 rw [hn] at hl ⊢
 clear hA hD hn
 go_enter Tryz.func12,Tryz.ntmps12
 go_wp2_with fail
 go_loopw [5] (fun i wr=>∃ k:Nat,k≤n∧i=.int .i64 k∧Below w.heap.size w wr) (fun i _=>n-(intOf i).toNat)
 case atStart=>exact ⟨0,Nat.zero_le _,rfl,anl _ _⟩
 case round =>
  rename World=>wo
  obtain ⟨k,hk,rfl,hb⟩:=hrel
  have HB:=anc hb
  clear hb
  by_cases hlt:k<n
  ·obtain ⟨x,hx⟩:∃ x,l[k]?=some x:=⟨_,anr (by rw [HN.out];exact hlt)⟩
   obtain ⟨b,off,rfl,hb1,hc1,hc2⟩:=HA.out.get hx
   obtain ⟨b2,adN,rfl,hb2,hd1,hd2⟩:=HD.out.get hx
   have hc1:=(HB.out.cell (p:=⟨b,off+k*2,none⟩) hb1).trans hc1
   have hc2:=(HB.out.cell (p:=⟨b,off+k*2+1,none⟩) hb1).trans hc2
   have hd1:=(HB.out.cell (p:=⟨b2,adN+k*2,none⟩) hb2).trans hd1
   have hd2:=(HB.out.cell (p:=⟨b2,adN+k*2+1,none⟩) hb2).trans hd2
   obtain ⟨xn,xk⟩:=x
   dsimp only at hc1 hc2 hd1 hd2
   have e1:(xn.toList==xn.toList)=true:=beq_self_eq_true _
   have e2:(xk==xk)=true:=beq_self_eq_true _
   have hk0:(0:Int)≤(k:Int):=by omega
   have hkn:(k:Int)<(n:Int):=by omega
   clear hx
   go_wp2_with fail
   go_quiet (fail)
   go_wp2_with fail
   go_roundw
   case rel=>exact ⟨k+1,by omega,by go_num,⟨HB.out.os,HB.out.tape,HB.out.output,HB.out.size,HB.out.block⟩⟩
   case measure=>simp [intOf];omega
  ·obtain rfl:k=n:=by omega
   go_wp2_with fail
   go_ret
   exact ⟨rfl,HB.out⟩
def Ya:Prop:=∀ w,Env w→Calls Tryz.prog 10 #[] w fun e w'=>e=.returned (.bool true)∧Below w.heap.size w w'
theorem Eu (hK:Ya)(s:ByteArray)(W:World)(hE:Env W):Calls Tryz.prog 3 #[.string s] W fun e W'=>e=.returned (.bool true)∧Below W.heap.size W W':=by
 have HE:=anc hE
 have HKN:=anc hK
 clear hE hK
 go_enter Tryz.func3,Tryz.ntmps3
 go_upto_if 14 with (fail)
 go_cut [0] (fun v wx=>(∃ s':ByteArray,v=.string s')∧wx=W)
 case first =>
  cases h6:decide (250<(s.size:Int))
  ·go_wp2_with fail
   go_meet
   exact ⟨⟨s,rfl⟩,rfl⟩
  ·have h6':250≤s.size:=by have:=of_decide_eq_true h6;omega
   go_wp2_with fail
   go_meet
   exact ⟨⟨_,rfl⟩,rfl⟩
 case rest =>
  obtain ⟨⟨s',rfl⟩,rfl⟩:=hcut
  go_wp2_with fail
  refine (aa1 s' _).mono ?_
  rintro e w1 ⟨⟨a,p,rfl,hA,hp⟩,hb1⟩
  have hs1:=hb1.size
  have HP:Hid (p=bW∨X3 p):=anc hp
  obtain ⟨w2,uT⟩:∃ w2,w2=w1.alloc (.cells (P.bx p a) 27):=⟨_,rfl⟩
  have hb2:Below w1.heap.size w1 w2:=by rw [uT];exact (anl _ _).alloc (ank _) _
  have dG:Hid (w2.heap[w1.heap.size]?=some (.cells (P.bx p a) 27 (0,0))):=anc (by rw [uT];exact anm w1 _)
  have hs2:w1.heap.size<w2.heap.size:=(Array.getElem?_eq_some_iff.1 dG.out).1
  have HB2:=anc (hb1.trans (hb2.mono hs1))
  have HA2:Hid (jS w2 (LT w1) p a):=anc ((hA.kept fun k hk=>hb2.block k hk.2).mono fun k hk=>hk.2)
  have HW2:=anc uT
  have Yb:Hid (∀ wd we,Below w2.heap.size w2 wd→Below wd.heap.size wd we→kS we (fun q=>wd.heap.size≤q∧q<we.heap.size) (some ⟨wd.heap.size+2,0,none⟩) (oO wd.heap.size)→Calls Tryz.prog 8 #[p.val a,.slice (some ⟨wd.heap.size+2,0,none⟩) 2 2] we fun e w'=>Ap (oO wd.heap.size) p we e w'∧Below we.heap.size we w'):=anc (fun wd we h1 h2 h3 =>
   mJ (oO wd.heap.size) (by show 2≤1000;decide) (yC _) (Hz _) p (HP.out.imp id fun h=>⟨h.good,h.prn⟩) a we ((HA2.out.kept fun k hk=>((h1.trans (h2.mono h1.size)).block k (Nat.lt_trans hk hs2))).mono fun k hk=>anp (Nat.lt_trans hk hs2) (anv h1.size h2.size)) (HE.out.low (HB2.out.trans ((h1.trans (h2.mono h1.size)).mono HB2.out.size))) (some ⟨wd.heap.size+2,0,none⟩) 2 (by show 2≤2;decide) (h3.mono fun k hk=>hk.2))
  have HTH:Hid (∀ (wx:World)(b0 b1 b2 b3 b4:Nat)(t0 t1 t2 t3 t4:TypeId),Below w2.heap.size w2 wx →
   wx.heap[b0]?=some (.cells #[.int .i64 2,.string ⟨#[]⟩,.int .i64 1,.slice none 0 0] t0 (0,0))→wx.heap[b1]?=some (.cells (P.bx p a) t1 (0,0))→wx.heap[b2]?=some (.cells (P.bx p a) t2 (0,0)) →
   wx.heap[b3]?=some (.cells (P.bx2 p a) t3 (0,0))→wx.heap[b4]?=some (.cells (OU b0 b1 b2 b3) t4 (0,0))→yQ wx (LT wx) (some ⟨b4,0,none⟩) (jL p)):=anc (fun wx b0 b1 b2 b3 b4 t0 t1 t2 t3 t4 hb h0 h1 h2 h3 h4 =>
   Vh ((HA2.out.kept fun k hk=>hb.block k (Nat.lt_trans hk hs2)).mono fun k hk=>anp (Nat.lt_trans hk hs2) hb.size) h0 h1 h2 h3 h4)
  clear hA hp hb1 hb2 uT
  obtain ⟨pv,hpv⟩:∃ v,v=p.val a:=⟨_,rfl⟩
  simp only [P.bx,P.bx2,P.val] at dG HW2 Yb HTH ⊢
  obtain ⟨xk,hxk⟩:∃ v,v=p.k:=⟨_,rfl⟩
  rw [←hxk] at dG HW2 Yb HTH ⊢
  clear hpv hxk
  generalize p.nm=Kv at *
  generalize p.ex.length=x1 at *
  generalize p.cols.length=x2 at *
  generalize p.left.length=x3 at *
  generalize p.right.length=x4 at *
  generalize p.ag.length=x5 at *
  generalize p.kids.length=x6 at *
  obtain ⟨ea,ec,ca,cc,la,lc,ra,rc,ga,gc,ka,kc⟩:=a
  simp only at dG HW2 Yb HTH ⊢
  go_upto_region 4 with (fail)
  rw [←HW2.out]
  refine wp_region_held_drew (S:=fun w'=>Below w2.heap.size w2 w') (by kernel_rfl) ((anl w2.heap.size w2).drew) (fun hHeld=>?_)
  refine wpAnyH_take (i:=0) (v:=(.agg #[.int .i64 xk,.string Kv,.slice ea x1 ec,.slice ca x2 cc,.slice la x3 lc,.slice ra x4 rc,.slice ga x5 gc,.slice ka x6 kc])) rfl (by kernel_rfl) (by kernel_rfl) (by kernel_rfl) (fun _ _ _ h=>h) (Or.inl ⟨by rfl,fun w1' hSw=>by (have y9:=az ((hSw.block w1.heap.size hs2).trans dG.out);obtain ⟨y0,y1,y2,y3,y4,y5,y6,y7,_,_,_,_,_,_,_,_⟩:=y9;go_simp)⟩) (by assumption) ?_
  simp only [ane,anf,Act.put,anh,ani,anj]
  refine wpAnyH_ready (rs:=[1]) (by kernel_rfl) (by simp) ?_
  refine AllReadyH.cons rfl (fun K hK=>?_) AllReadyH.nil
  simp only [ane,ang,anf]
  go_simp
  refine (yD w2.drew).mono ?_
  rintro e w3 ⟨⟨rfl,hD3⟩,hb3⟩
  have HD3:=anc hD3
  have HB3:Hid (Below w2.heap.size w2 w3):=anc ((anl w2.heap.size w2).drew.trans hb3)
  have Yv:=anc (Yb.out w2.drew w3 (anl w2.heap.size w2).drew hb3 hD3)
  go_wp2_with fail
  refine hK.out _ _ HB3.out (fun hHeld=>?_)
  clear hK K hb3 hD3
  refine wpAnyH_ready (rs:=[2]) (by kernel_rfl) (by simp) ?_
  refine AllReadyH.cons rfl (fun K hK=>?_) AllReadyH.nil
  simp only [ane,ang,anf]
  go_simp
  refine (Yv.out).mono ?_
  rintro e w4 ⟨⟨A,n,c,why,YF,rfl,hO⟩,hb4⟩
  have HO:=anc hO
  have HB4:Hid (Below w2.heap.size w2 w4):=anc (HB3.out.trans (hb4.mono HB3.out.size))
  go_wp2_with fail
  refine hK.out _ _ HB4.out (fun hHeld=>?_)
  clear hK K hb4 hO
  refine wpAnyH_take (i:=3) (v:=.tuple #[.slice A n c,.int .i64 why,.string YF]) rfl (by kernel_rfl) (by kernel_rfl) (by kernel_rfl) (fun _ _ _ h=>h) (Or.inl ⟨by rfl,fun w1' hSw=>by (go_simp)⟩) (by assumption) ?_
  simp only [ane,ang,anf,Act.put,anh,ani,anj]
  refine wpAnyH_take (i:=4) (v:=.slice A n c) rfl (by kernel_rfl) (by kernel_rfl) (by kernel_rfl) (fun _ _ _ h=>h) (Or.inl ⟨by rfl,fun w1' hSw=>by (go_simp)⟩) (by assumption) ?_
  simp only [ane,ang,anf,Act.put,anh,ani,anj]
  refine wpAnyH_take (i:=5) (v:=.int .i64 why) rfl (by kernel_rfl) (by kernel_rfl) (by kernel_rfl) (fun _ _ _ h=>h) (Or.inl ⟨by rfl,fun w1' hSw=>by (go_simp)⟩) (by assumption) ?_
  simp only [ane,ang,anf,Act.put,anh,ani,anj]
  refine wpAnyH_take (i:=6) (v:=.string YF) rfl (by kernel_rfl) (by kernel_rfl) (by kernel_rfl) (fun _ _ _ h=>h) (Or.inl ⟨by rfl,fun w1' hSw=>by (go_simp)⟩) (by assumption) ?_
  simp only [ane,ang,anf,Act.put,anh,ani,anj]
  refine wpAnyH_take (i:=7) (v:=.slice A n c) rfl (by kernel_rfl) (by kernel_rfl) (by kernel_rfl) (fun _ _ _ h=>h) (Or.inl ⟨by rfl,fun w1' hSw=>by (go_simp)⟩) (by assumption) ?_
  simp only [ane,ang,anf,Act.put,anh,ani,anj]
  refine wpAnyH_take (i:=8) (v:=.int .i64 why) rfl (by kernel_rfl) (by kernel_rfl) (by kernel_rfl) (fun _ _ _ h=>h) (Or.inl ⟨by rfl,fun w1' hSw=>by (go_simp)⟩) (by assumption) ?_
  simp only [ane,ang,anf,Act.put,anh,ani,anj]
  refine wpAnyH_take (i:=9) (v:=.string YF) rfl (by kernel_rfl) (by kernel_rfl) (by kernel_rfl) (fun _ _ _ h=>h) (Or.inl ⟨by rfl,fun w1' hSw=>by (go_simp)⟩) (by assumption) ?_
  simp only [ane,ang,anf,Act.put,anh,ani,anj]
  refine wpAnyH_done (by kernel_rfl) ?_ _
  have NU:Hid (Below wc.heap.size wc w4):=anc (HB2.out.trans (HB4.out.mono HB2.out.size))
  by_cases hwy:why=0
  ·subst hwy
   have hOK:p≠bW∧(bZ (oO w2.heap.size) p).2.1=0∧n=(bZ (oO w2.heap.size) p).1.length∧n≤c∧gV w4 (fun q=>w3.heap.size≤q∧q<w4.heap.size) A (bZ (oO w2.heap.size) p).1:=by
    rcases HO.out with h | h | h
    ·exact ⟨h.2.1,h.2.2.1,h.2.2.2.1,h.2.2.2.2.1,h.2.2.2.2.2⟩
    ·exact absurd h.1 (by decide)
    ·exact absurd rfl h.1
   obtain ⟨hz,ho0,hn,hc,hC⟩:=hOK
   have hof:=HP.out.resolve_left hz
   have HOF:=anc hof
   have HO0:=anc ho0
   have hce:fK (bZ (oO w2.heap.size) p).1=0:=NT (fun d hd=>by
    simp only [oO,List.mem_cons,List.not_mem_nil,or_false] at hd
    rcases hd with rfl | rfl <;> kernel_rfl) p hof.good ho0
   have xH:=JB (yC w2.heap.size) p
   obtain ⟨l,el⟩:∃ l,l=(bZ (oO w2.heap.size) p).1:=⟨_,rfl⟩
   rw [←el] at hn hC hce xH
   have Qa:=anc el
   have HC:=anc hC
   have KC:=anc (zN A c l (by omega) (by omega) w4 (hC.to fun q hq=>hq.2))
   rw [hce,←hn] at KC
   have HN:=anc hn
   clear HO hz ho0 hC hce hof el hn
   go_wp2_with fail
   refine (KC.out).mono ?_
   rintro e w5 ⟨rfl,hb5⟩
   have fP:Hid (Below w4.heap.size w4 w5):=anc hb5
   clear hb5
   go_upto_region 9 with (fail)
   have y9:=((fP.out.block w1.heap.size (anp hs2 HB4.out.size)).trans ((HB4.out.block w1.heap.size hs2).trans dG.out))
   have hs5:w1.heap.size<w5.heap.size:=anp hs2 (anv HB4.out.size fP.out.size)
   have hW3:Below w5.heap.size w5 (((w5.alloc (.cells #[.int .i64 2,.string ⟨#[]⟩,.int .i64 1,.slice none 0 0] 38)).alloc (.cells #[.int .i64 xk,.string Kv,.slice ea x1 ec,.slice ca x2 cc,.slice la x3 lc,.slice ra x4 rc,.slice ga x5 gc,.slice ka x6 kc] 27)).alloc (.cells #[.int .i64 xk,.string Kv,.slice ea x1 ec,.slice ca x2 cc,.slice la x3 lc,.slice ra x4 rc,.slice ga x5 gc,.slice ka x6 kc] 27)):=((((anl _ _).alloc (ank _) _).alloc (by simp) _).alloc (by simp;omega) _)
   have y10:=(hW3.block w1.heap.size hs5).trans y9
   obtain ⟨y0,y1,y2,y3,y4,y5,y6,y7,f0,f1,f2,f3,f4,f5,f6,f7⟩:=az y9
   obtain ⟨z0,z1,z2,z3,z4,z5,z6,z7,g0,g1,g2,g3,g4,g5,g6,g7⟩:=az y10
   clear y9 y10 hW3
   go_wp2_with fail
   obtain ⟨w6,G9⟩:∃ w6,w6=(((((w5.alloc (.cells #[.int .i64 2,.string ⟨#[]⟩,.int .i64 1,.slice none 0 0] 38)).alloc (.cells #[.int .i64 xk,.string Kv,.slice ea x1 ec,.slice ca x2 cc,.slice la x3 lc,.slice ra x4 rc,.slice ga x5 gc,.slice ka x6 kc] 27)).alloc (.cells #[.int .i64 xk,.string Kv,.slice ea x1 ec,.slice ca x2 cc,.slice la x3 lc,.slice ra x4 rc,.slice ga x5 gc,.slice ka x6 kc] 27)).alloc (.cells #[.int .i64 xk,.string Kv,.slice ea x1 ec,.slice ca x2 cc,.slice la x3 lc,.slice ra x4 rc,.slice ga x5 gc,.slice ka x6 kc,.int .i64 xk,.string Kv,.slice ea x1 ec,.slice ca x2 cc,.slice la x3 lc,.slice ra x4 rc,.slice ga x5 gc,.slice ka x6 kc] 27)).alloc (.cells #[.int .i64 2,.string ⟨#[]⟩,.slice (some ⟨w5.heap.size,0,none⟩) 1 1,.slice none 0 0,.slice none 0 0,.slice none 0 0,.slice none 0 0,.slice (some ⟨w5.heap.size+1,0,none⟩) 1 1,.int .i64 6,.string ⟨#[]⟩,.slice none 0 0,.slice none 0 0,.slice none 0 0,.slice none 0 0,.slice none 0 0,.slice (some ⟨w5.heap.size+1+1,0,none⟩) 1 1,.int .i64 5,.string ⟨#[]⟩,.slice none 0 0,.slice none 0 0,.slice none 0 0,.slice none 0 0,.slice none 0 0,.slice (some ⟨w5.heap.size+1+1+1,0,none⟩) 2 2] 27)):=⟨_,rfl⟩
   obtain ⟨l0,l1,l2,l3,l4,hbl⟩:=Rh _ _ _ _ _ _ _ G9
   have hx6:=HTH.out w6 _ _ _ _ _ _ _ _ _ _ (HB4.out.trans ((fP.out.trans (hbl.mono fP.out.size)).mono HB4.out.size)) l0 l1 l2 l3 l4
   rw [←G9]
   have CG:=anc hx6
   have iP:Hid (Below w4.heap.size w4 w6):=anc (fP.out.trans (hbl.mono fP.out.size))
   clear G9 l0 l1 l2 l3 l4 hbl hx6 y0 y1 y2 y3 y4 y5 y6 y7 f0 f1 f2 f3 f4 f5 f6 f7 z0 z1 z2 z3 z4 z5 z6 z7 g0 g1 g2 g3 g4 g5 g6 g7
   go_loopw [51] (fun i wr=>∃ k:Nat,k≤3∧i=.int .i64 k∧Below w6.heap.size w6 wr) (fun i _=>3-(intOf i).toNat)
   case atStart=>exact ⟨0,Nat.zero_le _,rfl,anl _ _⟩
   case round =>
    obtain ⟨k,hk,rfl,hb⟩:=hrel
    by_cases hlt:k<3
    ·obtain ⟨q,hq⟩:∃ q,(jL p)[k]?=some q:=⟨_,anr (show k<(jL p).length from hlt)⟩
     obtain ⟨bb,o,aq,eb,hbq,hc1,hp1⟩:=CG.out.cu hb hq
     cases eb
     have m0:=hc1 0 _ rfl
     have m1:=hc1 1 _ rfl
     have m2:=hc1 2 _ rfl
     have m3:=hc1 3 _ rfl
     have m4:=hc1 4 _ rfl
     have m5:=hc1 5 _ rfl
     have m6:=hc1 6 _ rfl
     have m7:=hc1 7 _ rfl
     simp only [Nat.zero_add,Nat.add_zero] at m0 m1 m2 m3 m4 m5 m6 m7
     obtain ⟨wx,dN⟩:∃ wx,wx=wr.alloc (.cells (P.bx q aq) 27):=⟨_,rfl⟩
     have hbx:Below wr.heap.size wr wx:=by rw [dN];exact (anl _ _).alloc (ank _) _
     have HXN:Hid (wx.heap[wr.heap.size]?=some (.cells (P.bx q aq) 27 (0,0))):=anc (by rw [dN];exact anm wr _)
     have hsx:wr.heap.size<wx.heap.size:=(Array.getElem?_eq_some_iff.1 HXN.out).1
     have Yc:Hid (Below w4.heap.size w4 wx):=anc (iP.out.trans ((hb.trans (hbx.mono hb.size)).mono iP.out.size))
     have hq3:=Ri HOF.out HO0.out Qa.out hq
     have HQO:=anc hq3.2
     have Yd:Hid (∀ wd we,Below wx.heap.size wx wd→Below wd.heap.size wd we→kS we (fun q=>wd.heap.size≤q∧q<we.heap.size) (some ⟨wd.heap.size+2,0,none⟩) (oO wd.heap.size)→Calls Tryz.prog 8 #[q.val aq,.slice (some ⟨wd.heap.size+2,0,none⟩) 2 2] we fun e w'=>Ap (oO wd.heap.size) q we e w'∧Below we.heap.size we w'):=anc (fun wd we h1 h2 h3 =>
      mJ (oO wd.heap.size) (by show 2≤1000;decide) (yC _) (Hz _) q (.inr hq3.1) aq we (hp1.low (hbx.trans ((h1.trans (h2.mono h1.size)).mono hbx.size))) (HE.out.low (NU.out.trans ((Yc.out.trans ((h1.trans (h2.mono h1.size)).mono Yc.out.size)).mono NU.out.size))) (some ⟨wd.heap.size+2,0,none⟩) 2 (by show 2≤2;decide) (h3.mono fun k hk=>hk.2))
     have jM:=anc dN
     have adP:Hid (Below w6.heap.size w6 wx):=anc (hb.trans (hbx.mono hb.size))
     clear dN hbx hq hc1 hp1 hq3
     simp only [P.bx,P.val] at HXN jM Yd
     obtain ⟨zk,hzk⟩:∃ v,v=q.k:=⟨_,rfl⟩
     rw [←hzk] at m0 HXN jM Yd
     clear hzk
     generalize q.nm=znm at *
     generalize q.ex.length=z1 at *
     generalize q.cols.length=z2 at *
     generalize q.left.length=z3 at *
     generalize q.right.length=z4 at *
     generalize q.ag.length=z5 at *
     generalize q.kids.length=z6 at *
     obtain ⟨qa,qc,qca,qcc,qla,qlc,qra,qrc,qga,qgc,qka,qkc⟩:=aq
     simp only at m0 m1 m2 m3 m4 m5 m6 m7 HXN jM Yd
     go_upto_region 12 with (fail)
     rw [←jM.out]
     refine wp_region_held_drew (S:=fun w'=>Below wx.heap.size wx w') (by kernel_rfl) ((anl wx.heap.size wx).drew) (fun hHeld=>?_)
     refine wpAnyH_take (i:=0) (v:=(.agg #[.int .i64 zk,.string znm,.slice qa z1 qc,.slice qca z2 qcc,.slice qla z3 qlc,.slice qra z4 qrc,.slice qga z5 qgc,.slice qka z6 qkc])) rfl (by kernel_rfl) (by kernel_rfl) (by kernel_rfl) (fun _ _ _ h=>h) (Or.inl ⟨by rfl,fun w1' hSw=>by (have y9:=az ((hSw.block wr.heap.size hsx).trans HXN.out);obtain ⟨y0,y1,y2,y3,y4,y5,y6,y7,_,_,_,_,_,_,_,_⟩:=y9;go_simp)⟩) (by assumption) ?_
     simp only [ane,anf,Act.put,anh,ani,anj]
     refine wpAnyH_ready (rs:=[1]) (by kernel_rfl) (by simp) ?_
     refine AllReadyH.cons rfl (fun K hK=>?_) AllReadyH.nil
     simp only [ane,ang,anf]
     go_simp
     refine (yD wx.drew).mono ?_
     rintro e w7 ⟨⟨rfl,hD3⟩,hb3⟩
     have HD7:=anc hD3
     have Ii:Hid (Below wx.heap.size wx w7):=anc ((anl wx.heap.size wx).drew.trans hb3)
     have HCQ:=anc (Yd.out wx.drew w7 (anl wx.heap.size wx).drew hb3 hD3)
     go_wp2_with fail
     refine hK.out _ _ Ii.out (fun hHeld=>?_)
     clear hK K hb3 hD3
     refine wpAnyH_ready (rs:=[2]) (by kernel_rfl) (by simp) ?_
     refine AllReadyH.cons rfl (fun K hK=>?_) AllReadyH.nil
     simp only [ane,ang,anf]
     go_simp
     refine (HCQ.out).mono ?_
     rintro e w8 ⟨⟨A',n',c',aa3,nq,rfl,hO⟩,hb4⟩
     have HO:=anc hO
     have uC:Hid (Below wx.heap.size wx w8):=anc (Ii.out.trans (hb4.mono Ii.out.size))
     go_wp2_with fail
     refine hK.out _ _ uC.out (fun hHeld=>?_)
     clear hK K hb4 hO
     refine wpAnyH_take (i:=3) (v:=.tuple #[.slice A' n' c',.int .i64 aa3,.string nq]) rfl (by kernel_rfl) (by kernel_rfl) (by kernel_rfl) (fun _ _ _ h=>h) (Or.inl ⟨by rfl,fun w1' hSw=>by (go_simp)⟩) (by assumption) ?_
     simp only [ane,ang,anf,Act.put,anh,ani,anj]
     refine wpAnyH_take (i:=4) (v:=.slice A' n' c') rfl (by kernel_rfl) (by kernel_rfl) (by kernel_rfl) (fun _ _ _ h=>h) (Or.inl ⟨by rfl,fun w1' hSw=>by (go_simp)⟩) (by assumption) ?_
     simp only [ane,ang,anf,Act.put,anh,ani,anj]
     refine wpAnyH_take (i:=5) (v:=.int .i64 aa3) rfl (by kernel_rfl) (by kernel_rfl) (by kernel_rfl) (fun _ _ _ h=>h) (Or.inl ⟨by rfl,fun w1' hSw=>by (go_simp)⟩) (by assumption) ?_
     simp only [ane,ang,anf,Act.put,anh,ani,anj]
     refine wpAnyH_take (i:=6) (v:=.string nq) rfl (by kernel_rfl) (by kernel_rfl) (by kernel_rfl) (fun _ _ _ h=>h) (Or.inl ⟨by rfl,fun w1' hSw=>by (go_simp)⟩) (by assumption) ?_
     simp only [ane,ang,anf,Act.put,anh,ani,anj]
     refine wpAnyH_take (i:=7) (v:=.slice A' n' c') rfl (by kernel_rfl) (by kernel_rfl) (by kernel_rfl) (fun _ _ _ h=>h) (Or.inl ⟨by rfl,fun w1' hSw=>by (go_simp)⟩) (by assumption) ?_
     simp only [ane,ang,anf,Act.put,anh,ani,anj]
     refine wpAnyH_take (i:=8) (v:=.int .i64 aa3) rfl (by kernel_rfl) (by kernel_rfl) (by kernel_rfl) (fun _ _ _ h=>h) (Or.inl ⟨by rfl,fun w1' hSw=>by (go_simp)⟩) (by assumption) ?_
     simp only [ane,ang,anf,Act.put,anh,ani,anj]
     refine wpAnyH_take (i:=9) (v:=.string nq) rfl (by kernel_rfl) (by kernel_rfl) (by kernel_rfl) (fun _ _ _ h=>h) (Or.inl ⟨by rfl,fun w1' hSw=>by (go_simp)⟩) (by assumption) ?_
     simp only [ane,ang,anf,Act.put,anh,ani,anj]
     refine wpAnyH_done (by kernel_rfl) ?_ _
     have adQ:Hid (Below w4.heap.size w4 w8):=anc (Yc.out.trans (uC.out.mono Yc.out.size))
     have aa4:Hid (Below w6.heap.size w6 w8):=anc (adP.out.trans (uC.out.mono adP.out.size))
     rcases HO.out with ⟨h1,h2,h3,h4,h5,h6⟩ | ⟨h1,h2,_⟩ | ⟨h1,h2,h3,h4,h5⟩
     ·subst h1
      rw [HQO.out] at h4 h6
      have HKC:=anc (uX A A' c c' l (by omega) w8 ((HC.out.kept fun g hg=>adQ.out.block g hg.2).to fun g hg=>anp hg.2 adQ.out.size) (h6.to fun g hg=>hg.2))
      have h4':n'=l.length:=h4
      rw [←HN.out] at HKC
      rw [←HN.out] at h4'
      subst h4'
      clear HO h2 h3 h4 h5 h6
      go_wp2_with fail
      refine (HKC.out).mono ?_
      rintro e w9 ⟨rfl,Ky⟩
      have HB9:Hid (Below w6.heap.size w6 w9):=anc (aa4.out.trans (Ky.mono aa4.out.size))
      clear Ky
      go_wp2_with fail
      go_roundw
      case rel=>exact ⟨k+1,by omega,by go_num,HB9.out⟩
      case measure=>simp [intOf];omega
     ·subst h1
      subst h2
      clear HO
      go_wp2_with fail
      go_roundw
      case rel=>exact ⟨k+1,by omega,by go_num,aa4.out⟩
      case measure=>simp [intOf];omega
     ·rw [HQO.out] at h4
      exact absurd h4 h1
    ·obtain rfl:k=3:=by omega
     have aa5:=anc (NU.out.trans ((iP.out.trans (hb.mono iP.out.size)).mono NU.out.size))
     clear hb
     go_wp2_with fail
     refine (HKN.out wr (HE.out.low aa5.out)).mono ?_
     rintro e w7 ⟨rfl,hb7⟩
     have Ii:=anc (aa5.out.trans (hb7.mono aa5.out.size))
     clear hb7
     go_wp2_with fail
     go_ret
     exact ⟨rfl,Ii.out⟩
  ·have acM:(why != 0)=true:=by simpa using hwy
   have hn0:n=0:=by
    rcases HO.out with h | h | h
    ·exact absurd h.1 hwy
    ·exact h.2.1
    ·exact h.2.1
   subst hn0
   clear HO
   go_wp2_with fail
   refine (HKN.out w4 (HE.out.low NU.out)).mono ?_
   rintro e w5 ⟨rfl,hb5⟩
   have fP:=anc (NU.out.trans (hb5.mono NU.out.size))
   clear hb5
   go_wp2_with fail
   go_ret
   exact ⟨rfl,fP.out⟩
def Vj:ByteArray:=⟨#[40,116,97,98,108,101,32,116,41]⟩
def Vk:ByteArray:=⟨#[40,103,114,111,117,112,32,40,97,41,32,40,97,32,99,111,117,110,116,41,32,40,116,97,98,108,101,32,116,41,41]⟩
def aa6:ByteArray:=⟨#[116,97,98,108,101]⟩
def aa7:ByteArray:=⟨#[103,114,111,117,112]⟩
def NV:ByteArray:=⟨#[99,111,117,110,116]⟩
def uY (i j k:Int):T:=.mk 1 ⟨#[]⟩ 0 [.mk 2 aa6 0 [] i,.mk 2 ⟨#[116]⟩ 0 [] j] k
def uZ:T:=.mk 1 ⟨#[]⟩ 0 [.mk 2 aa7 0 [] 1,.mk 1 ⟨#[]⟩ 0 [.mk 2 ⟨#[97]⟩ 0 [] 8] 7,.mk 1 ⟨#[]⟩ 0 [.mk 2 ⟨#[97]⟩ 0 [] 12,.mk 2 NV 0 [] 14] 11,uY 22 28 21] 0
def nM:P:=.mk 1 ⟨#[116]⟩ [] [] [] [] [] []
def oz:P:=.mk 7 ⟨#[]⟩ [] [] [⟨#[97]⟩] [] [⟨⟨#[97]⟩,NV,⟨#[]⟩⟩] [nM]
theorem Ye:XF Vj=some (some (uY 1 7 0)):=by kernel_rfl
theorem Yf:XF Vk=some (some uZ):=by kernel_rfl
theorem DR (i j k:Int):fA (uY i j k)=1:=by kernel_rfl
theorem DT:fA uZ=7:=by kernel_rfl
theorem OV (i j k:Int):pV (uY i j k):=.mk _ (by rw [DR];decide) (by rw [DR];exact .inl ⟨rfl,by kernel_rfl⟩) (fun x hx=>by
 rw [DR] at hx
 have e:(uY i j k).kids.drop ((uY i j k).kids.length-aJ 1)=[]:=by kernel_rfl
 rw [e] at hx
 cases hx)
theorem Yg:pV uZ:=.mk _ (by rw [DT];decide) (by
 rw [DT]
 refine .inr ⟨rfl,fun e he=>?_,fun e he=>?_⟩
 ·have h:((uZ.kids.getD 1 aH).kids)=[.mk 2 ⟨#[97]⟩ 0 [] 8]:=by kernel_rfl
  rw [h] at he
  obtain rfl:=List.mem_singleton.1 he
  show nameB (⟨#[97]⟩:ByteArray)=true
  kernel_rfl
 ·have h:bT uZ.kids 2=[.mk 1 ⟨#[]⟩ 0 [.mk 2 ⟨#[97]⟩ 0 [] 12,.mk 2 NV 0 [] 14] 11]:=by kernel_rfl
  rw [h] at he
  obtain rfl:=List.mem_singleton.1 he
  exact ⟨_,_,rfl,rfl,rfl,by kernel_rfl,by kernel_rfl⟩) (fun x hx=>by
 rw [DT] at hx
 have e:uZ.kids.drop (uZ.kids.length-aJ 7)=[uY 22 28 21]:=by kernel_rfl
 rw [e] at hx
 obtain rfl:=List.mem_singleton.1 hx
 exact OV _ _ _)
theorem Kq (i j k:Int):aX (uY i j k) (0,0)=(nM,0,0):=by kernel_rfl
theorem Kr:aX uZ (0,0)=(oz,0,0):=by kernel_rfl
theorem OW (i j k:Int):AL (uY i j k):=.node _ _ fun e he=>by
 simp only [List.mem_cons,List.not_mem_nil,or_false] at he
 rcases he with rfl | rfl
 ·exact .atom _ _ (by decide) (by decide)
 ·exact .atom _ _ (by decide) (by decide)
theorem Yh:AL uZ:=.node _ _ fun e he=>by
 simp only [List.mem_cons,List.not_mem_nil,or_false] at he
 rcases he with rfl | rfl | rfl | rfl
 ·exact .atom _ _ (by decide) (by decide)
 ·refine .node _ _ fun e he=>?_
  simp only [List.mem_cons,List.not_mem_nil,or_false] at he
  subst he
  exact .atom _ _ (by decide) (by decide)
 ·refine .node _ _ fun e he=>?_
  simp only [List.mem_cons,List.not_mem_nil,or_false] at he
  rcases he with rfl | rfl
  ·exact .atom _ _ (by decide) (by decide)
  ·exact .atom _ _ (by decide) (by decide)
 ·exact OW _ _ _
theorem aa8:nH (uY 1 7 0) nM:=⟨OW _ _ _,Kq _ _ _,by decide,by decide⟩
theorem aa9:nH uZ oz:=⟨Yh,Kr,by decide,by decide⟩
theorem Vl:(qJ nM).size≤600∧(qJ nM).toList.isEmpty=false:=by
 have e:(qJ nM).size=9:=by kernel_rfl
 exact ⟨by rw [e];decide,by kernel_rfl⟩
theorem Vm:(qJ oz).size≤600∧(qJ oz).toList.isEmpty=false:=by
 have e:(qJ oz).size=31:=by kernel_rfl
 exact ⟨by rw [e];decide,by kernel_rfl⟩
theorem Vo:nM≠bW:=fun h=>by have:=congrArg P.k h;exact absurd this (by decide)
theorem Vp:oz≠bW:=fun h=>by have:=congrArg P.k h;exact absurd this (by decide)
theorem Vq:Hy Vj nM:=⟨_,Ye,OV _ _ _,Kq _ _ _,Vl.1⟩
theorem Vr:Hy Vk oz:=⟨_,Yf,Yg,Kr,Vm.1⟩
theorem Yi:ExP nM:=⟨Vo,_,aa8,Vl⟩
theorem Yj:ExP oz:=⟨Vp,_,aa9,Vm⟩
theorem Yk (n:Nat):bZ (oO n) nM=(Rx,0,⟨#[]⟩):=by kernel_rfl
theorem Yl (n:Nat):bZ (oO n) oz=([],21,⟨#[97]⟩):=by kernel_rfl
theorem Rj {n:Nat} {w w':World} {e:Ending} (h:Ap (oO n) nM w e w'):∃ (A:Option Addr)(c:Nat)(nm:ByteArray),e=.returned (.tuple #[.slice A 3 c,.int .i64 0,.string nm])∧gV w' (fun q=>w.heap.size≤q∧q<w'.heap.size) A Rx:=by
 obtain ⟨A,m,c,why,nm,he,h⟩:=h
 rw [Yk] at h
 rcases h with ⟨h1,_,_,h4,_,h6⟩ | ⟨_,_,h⟩ | ⟨h1,_,_,h4,_⟩
 ·have h4':m=3:=h4
  subst h1
  subst h4'
  exact ⟨A,c,nm,he,h6⟩
 ·exact absurd Yi h
 ·exact absurd h4 h1
theorem Rk {n:Nat} {w w':World} {e:Ending} (h:Ap (oO n) oz w e w'):∃ (A:Option Addr)(m c:Nat),e=.returned (.tuple #[.slice A m c,.int .i64 21,.string ⟨#[97]⟩]):=by
 obtain ⟨A,m,c,why,nm,he,h⟩:=h
 rw [Yl] at h
 rcases h with ⟨h1,_,h3,_⟩ | ⟨_,_,h⟩ | ⟨_,_,_,h4,h5⟩
 ·exact absurd h3 (by decide)
 ·exact absurd Yj h
 ·have h4':why=21:=h4
  have h5':nm=⟨#[97]⟩:=h5
  subst h4'
  subst h5'
  exact ⟨A,m,c,he⟩
theorem Ym {w:World} {b:Nat} {t:TypeId} (h:w.heap[b]?=some (.cells #[.string ⟨#[97]⟩,.int .i64 1,.string ⟨#[98]⟩,.int .i64 1,.string ⟨#[115]⟩,.int .i64 2] t (0,0))):kG w w.heap.size (some ⟨b,0,none⟩) Rx:=by
 refine .inr ⟨b,0,rfl,(Array.getElem?_eq_some_iff.1 h).1,fun i c hc=>?_⟩
 match i,hc with
 | 0,hc=>obtain rfl:=Option.some.inj hc;constructor <;> simp [World.cell?,h]
 | 1,hc=>obtain rfl:=Option.some.inj hc;constructor <;> simp [World.cell?,h]
 | 2,hc=>obtain rfl:=Option.some.inj hc;constructor <;> simp [World.cell?,h]
 | i+3,hc=>simp [Rx] at hc
theorem Rl (w:World)(hE:Env w):Calls Tryz.prog 10 #[] w fun e w'=>e=.returned (.bool true)∧Below w.heap.size w w':=by
 have HE:=anc hE
 clear hE
 go_enter Tryz.func10,Tryz.ntmps10
 go_wp2_with fail
 refine (DJ Vj _).mono ?_
 rintro e w1 ⟨⟨a,p,rfl,hA,hp,hx⟩,hb1⟩
 have e1:=hx nM Vq
 subst e1
 have HA1:=anc hA
 have WE:=anc (hp.resolve_left Vo)
 have HB1:=anc hb1
 obtain ⟨pv,hpv⟩:∃ v,v=nM.val a:=⟨_,rfl⟩
 have Oc:Hid (∀ w',Below w1.heap.size w1 w'→kS w' (fun q=>w1.heap.size≤q∧q<w'.heap.size) (some ⟨w1.heap.size+2,0,none⟩) (oO w1.heap.size)→Calls Tryz.prog 8 #[pv,.slice (some ⟨w1.heap.size+2,0,none⟩) 2 2] w' fun e w2=>Ap (oO w1.heap.size) nM w' e w2∧Below w'.heap.size w' w2):=anc (fun w' hb hD=>by
  rw [hpv]
  exact mJ (oO w1.heap.size) (by show 2≤1000;decide) (yC _) (Hz _) nM (.inr ⟨WE.out.good,WE.out.prn⟩) a w' ((HA1.out.kept fun k hk=>hb.block k hk.2).mono fun k hk=>anp hk.2 hb.size) (HE.out.low (HB1.out.trans (hb.mono HB1.out.size))) (some ⟨w1.heap.size+2,0,none⟩) 2 (by show 2≤2;decide) (hD.mono fun k hk=>hk.2))
 rw [←hpv]
 clear hA hp hx hb1 hpv HA1 WE
 go_wp2_with fail
 refine (yD w1).mono ?_
 rintro e w2 ⟨⟨rfl,hD⟩,hb2⟩
 have HC2:=anc (Oc.out w2 hb2 hD)
 have HB2:=anc (HB1.out.trans (hb2.mono HB1.out.size))
 clear hD hb2 Oc
 go_wp2_with fail
 refine (HC2.out).mono ?_
 rintro e w3 ⟨hO,hb3⟩
 obtain ⟨A,c,nm,rfl,hR⟩:=Rj hO
 have HR3:=anc hR
 have HB3:=anc (HB2.out.trans (hb3.mono HB2.out.size))
 clear hO hR hb3 HC2
 go_wp2_with fail
 refine (DJ Vk _).mono ?_
 rintro e w4 ⟨⟨a,p,rfl,hA,hp,hx⟩,hb4⟩
 have e1:=hx oz Vr
 subst e1
 have HA1:=anc hA
 have WE:=anc (hp.resolve_left Vp)
 have HB4:=anc (HB3.out.trans (hb4.mono HB3.out.size))
 have Uo:=anc hb4
 obtain ⟨pv',hpv⟩:∃ v,v=oz.val a:=⟨_,rfl⟩
 have Oc:Hid (∀ w',Below w4.heap.size w4 w'→kS w' (fun q=>w4.heap.size≤q∧q<w'.heap.size) (some ⟨w4.heap.size+2,0,none⟩) (oO w4.heap.size)→Calls Tryz.prog 8 #[pv',.slice (some ⟨w4.heap.size+2,0,none⟩) 2 2] w' fun e w2=>Ap (oO w4.heap.size) oz w' e w2∧Below w'.heap.size w' w2):=anc (fun w' hb hD=>by
  rw [hpv]
  exact mJ (oO w4.heap.size) (by show 2≤1000;decide) (yC _) (Hz _) oz (.inr ⟨WE.out.good,WE.out.prn⟩) a w' ((HA1.out.kept fun k hk=>hb.block k hk.2).mono fun k hk=>anp hk.2 hb.size) (HE.out.low (HB4.out.trans (hb.mono HB4.out.size))) (some ⟨w4.heap.size+2,0,none⟩) 2 (by show 2≤2;decide) (hD.mono fun k hk=>hk.2))
 rw [←hpv]
 clear hA hp hx hb4 hpv HA1 WE
 go_wp2_with fail
 refine (yD w4).mono ?_
 rintro e w5 ⟨⟨rfl,hD⟩,hb5⟩
 have HC2:=anc (Oc.out w5 hb5 hD)
 have fP:=anc (HB4.out.trans (hb5.mono HB4.out.size))
 have qH:=anc (Uo.out.trans (hb5.mono Uo.out.size))
 clear hD hb5 Oc
 go_wp2_with fail
 refine (HC2.out).mono ?_
 rintro e w6 ⟨hO,hb6⟩
 obtain ⟨A',n',c',rfl⟩:=Rk hO
 have iP:=anc (fP.out.trans (hb6.mono fP.out.size))
 have adR:=anc (qH.out.trans (hb6.mono qH.out.size))
 clear hO hb6 HC2
 obtain ⟨w7,AZ⟩:∃ w7,w7=w6.alloc (.cells #[.string ⟨#[97]⟩,.int .i64 1,.string ⟨#[98]⟩,.int .i64 1,.string ⟨#[115]⟩,.int .i64 2] 42):=⟨_,rfl⟩
 have hb7:Below w6.heap.size w6 w7:=by rw [AZ];exact (anl _ _).alloc (ank _) _
 have hx7:w7.heap[w6.heap.size]?=some (.cells #[.string ⟨#[97]⟩,.int .i64 1,.string ⟨#[98]⟩,.int .i64 1,.string ⟨#[115]⟩,.int .i64 2] 42 (0,0)):=by rw [AZ];exact anm w6 _
 have adS:=anc (adR.out.trans (hb7.mono adR.out.size))
 have Ii:=anc (iP.out.trans (hb7.mono iP.out.size))
 have HK:Hid (Calls Tryz.prog 12 #[.slice A 3 c,.slice (some ⟨w6.heap.size,0,none⟩) 3 3] w7 fun e w'=>e=.returned (.bool true)∧Below w7.heap.size w7 w'):=anc (uX A (some ⟨w6.heap.size,0,none⟩) c 3 Rx (by decide) w7 ((HR3.out.kept fun g hg=>adS.out.block g hg.2).to fun g hg=>anp hg.2 adS.out.size) (Ym hx7))
 have HW7:=anc AZ
 clear AZ hb7 hx7
 go_wp2_with fail
 refine (adL w6).mono ?_
 rintro e w8 ⟨rfl,hw8⟩
 have e8:w8=w7:=hw8.symm.trans HW7.out.symm
 subst e8
 clear hw8
 go_wp2_with fail
 refine (HK.out).mono ?_
 rintro e w9 ⟨rfl,Ky⟩
 have HB9:=anc (Ii.out.trans (Ky.mono Ii.out.size))
 clear Ky
 go_wp2_with fail
 go_ret
 exact ⟨rfl,HB9.out⟩
theorem DU (s:ByteArray)(W:World)(hE:Env W):Calls Tryz.prog 3 #[.string s] W fun e W'=>e=.returned (.bool true)∧Below W.heap.size W W':=Eu (fun w h=>Rl w h) s W hE
end Go.Proofs.YtjhkihkiebnpaaaGreatDoor
namespace Go.Proofs.YtjhkihkiebnpaaaGreatDoor
open Go.ChangeShapes Go.WideShapes Go.ChangeAt Go.RowKit
theorem Vs:Tryz.prog.globalNamed "strconv.ErrRange"=some 3:=by kernel_rfl
theorem OX:Tryz.prog.globalNamed "strconv.ErrSyntax"=some 2:=by kernel_rfl
theorem NW:(Tryz.prog.globals[3]?).map (·.type)=some 163:=by kernel_rfl
theorem Kt:(Tryz.prog.globals[2]?).map (·.type)=some 163:=by kernel_rfl
theorem Ku {H:Type} {enc:TypeId×Value→H} {P:Program} {w:World} {base:Nat} {sp:Nat→Bool} {held:Bool} {fuel:Nat} {t:TypeId} {cs:List Value} {d:DataW H} {p:List MemPlace} {ms}
 (hu:P.underlying t=some (.interface ms))(h:DataW.trod enc P w base sp held fuel t cs=some (d,p)):∃ u,cs=[u]∧(u=.nilIface∨∃ te pe,u=.iface te pe):=by
 cases fuel with
 | zero=>simp [DataW.trod] at h
 | succ f =>
   unfold DataW.trod at h
   split at h <;> first | exact ⟨_,rfl,.inl rfl⟩ | exact ⟨_,rfl,.inr ⟨_,_,rfl⟩⟩ | simp_all
theorem Vt {W:World} {n:String} {g:Nat} {cs:Array Value} (hg:Tryz.prog.globalNamed n=some g)(h:W.var? Tryz.prog n=some cs):g<W.heap.size∧∀ (i:Nat) v,cs[i]?=some v→W.cell? ⟨g,i,none⟩=some v:=by
 unfold World.var? at h
 rw [hg] at h
 simp only [Option.bind_some] at h
 split at h
 ·rename_i c t fr hc
  obtain rfl:=Option.some.inj h
  refine ⟨(Array.getElem?_eq_some_iff.1 hc).1,fun i v hv=>?_⟩
  unfold World.cell?
  rw [hc]
  simpa using hv
 ·cases h
theorem Vu {W:World} (h:laidMetH Tryz.prog Rows.planBackRow.laid W):Errs W:=by
 have h:laidMet Tryz.prog [("math/bits.deBruijn32tab",Rows.laid_math_bits_deBruijn32tab),("math/bits.deBruijn64tab",Rows.laid_math_bits_deBruijn64tab),("internal/strconv.uint64pow10",Rows.laid_internal_strconv_uint64pow10),("strconv.ErrRange",Rows.laid_strconv_ErrRange),("strconv.ErrSyntax",Rows.laid_strconv_ErrSyntax)] W:=h
 obtain ⟨ps,⟨_,_,_,_,_,q1,_,_,_,_,h1,_⟩,_⟩:=h
 obtain ⟨_,_,_,_,_,q2,_,_,_,_,h2,_⟩:=h1
 obtain ⟨_,_,_,_,_,q,_,_,_,_,h3,_⟩:=h2
 obtain ⟨g3,t3,cs3,ajM,p3,q3,hg3,ht3,adT,hd3,h4,_⟩:=h3
 obtain ⟨g4,t4,cs4,ajN,p4,q4,hg4,ht4,adU,hd4,_,_⟩:=h4
 obtain rfl:=Option.some.inj (Vs.symm.trans hg3)
 obtain rfl:=Option.some.inj (NW.symm.trans ht3)
 obtain rfl:=Option.some.inj (OX.symm.trans hg4)
 obtain rfl:=Option.some.inj (Kt.symm.trans ht4)
 have hr:=Vt Vs adT
 have hs:=Vt OX adU
 obtain ⟨u3,hu3,ho3⟩:=Ku Tryz.underlying163 hd3
 obtain ⟨u4,hu4,sD⟩:=Ku Tryz.underlying163 hd4
 exact ⟨⟨hs.1,u4,hs.2 0 u4 (by rw [←Array.getElem?_toList,hu4];rfl),sD⟩,⟨hr.1,u3,hr.2 0 u3 (by rw [←Array.getElem?_toList,hu3];rfl),ho3⟩⟩
theorem ahg:Tryz.prog.globalNamed "internal/strconv.uint64pow10"=some 0:=by kernel_rfl
theorem Vw:(Tryz.prog.globals[0]?).map (·.type)=some 215:=by kernel_rfl
theorem Vx:Tryz.prog.cellsOf 215=20:=by kernel_rfl
theorem Vy:Tryz.prog.cellsOf 178=1:=by kernel_rfl
theorem Yn:(Rows.laid_internal_strconv_uint64pow10:DataW Unit)=Lib.tabData .u64 Lib.pow10Tab:=by kernel_rfl
theorem table {W:World} (h:laidMetH Tryz.prog Rows.planBackRow.laid W):Lib.TabIs Tryz.prog W "internal/strconv.uint64pow10" .u64 Lib.pow10Tab:=by
 have h:laidMet Tryz.prog [("math/bits.deBruijn32tab",Rows.laid_math_bits_deBruijn32tab),("math/bits.deBruijn64tab",Rows.laid_math_bits_deBruijn64tab),("internal/strconv.uint64pow10",Rows.laid_internal_strconv_uint64pow10),("strconv.ErrRange",Rows.laid_strconv_ErrRange),("strconv.ErrSyntax",Rows.laid_strconv_ErrSyntax)] W:=h
 obtain ⟨ps,⟨_,_,_,_,_,q1,_,_,_,_,h1,_⟩,_⟩:=h
 obtain ⟨_,_,_,_,_,q2,_,_,_,_,h2,_⟩:=h1
 obtain ⟨g',t',cs,fuel,p,q,hg',ht',hvar,hd,_,_⟩:=h2
 obtain rfl:=Option.some.inj (ahg.symm.trans hg')
 obtain rfl:=Option.some.inj (Vw.symm.trans ht')
 rw [Yn] at hd
 unfold Lib.TabIs
 rw [hvar,←Lib.cells_of_tab Tryz.underlying215 Tryz.underlying178 Vy Vx hd]
theorem Yo {W:World} (h:laidMetH Tryz.prog Rows.planBackRow.laid W):Env W:=⟨Vu h,fun w' hw=>Lib.tabBelow_of_tabIs (table h) w' hw⟩
def tV {H:Type}:DataW H→List Value
 | .agg parts=>parts.map fun d=>match d with | .lit (.int k n)=>Value.int k n | _=>undef
 | _=>[]
def setBlock (w:World)(g:Nat)(cs:Array Value):World:={ w with heap:=w.heap.modify g fun
 | .cells _ t frozen=>.cells cs t frozen
 | o=>o }
def textOf {H:Type}:DataW H→ByteArray
 | .iface _ (.ptr (.agg [.lit (.string l)]))=>⟨l.toArray⟩
 | _=>⟨#[]⟩
def Vz (w:World)(g:Nat)(s:ByteArray):World :=
 let w1:World:={ w with heap:=w.heap.push (.cells #[.string s] 237 (0,0)) }
 setBlock w1 g #[.iface 235 (.pointer (some ⟨w.heap.size,0,none⟩))]
noncomputable def laidWorld (os:Os):World :=
 Vz (Vz (setBlock (setBlock (setBlock (World.holding Tryz.prog os ⟨#[],#[],[]⟩) 4 (tV (H:=Unit) Rows.laid_math_bits_deBruijn32tab).toArray) 5 (tV (H:=Unit) Rows.laid_math_bits_deBruijn64tab).toArray) 0 (tV (H:=Unit) Rows.laid_internal_strconv_uint64pow10).toArray)
  3 (textOf (H:=Unit) Rows.laid_strconv_ErrRange)) 2 (textOf (H:=Unit) Rows.laid_strconv_ErrSyntax)
end Go.Proofs.YtjhkihkiebnpaaaGreatDoor
namespace Go.Proofs.YtjhkihkiebnpaaaGreatDoor
open Go.ChangeShapes Go.WideShapes Go.Deep Go.RowKit
section
variable {H:Type} {enc:TypeId×Value→H} {P:Program} {w:World} {base:Nat} {spare:Nat→Bool} {held:Bool}
theorem Ew (hl:laidOutB P=true) {W W':World} (hb:Below W.heap.size W W'):∀ (ts:List TypeId)(vs:List Value)(ds:List (DataW H))(ps:List MemPlace),(ts.all fun t=>P.readableRec t&&decide (t<P.types.size))=true →
 DataW.TrodAll enc P W 0 (fun _=>true) true ts vs ds ps→(∀ x∈ps,x.block<W.heap.size)→DataW.TrodAll enc P W' 0 (fun b=>decide (b<W.heap.size)) true ts vs ds ps:=by
 intro ts
 induction ts with
 | nil =>
   intro vs ds ps _ h _
   cases vs <;> cases ds <;> first | exact h | exact h.elim
 | cons t ts ih =>
   intro vs ds ps hr h hlt
   cases vs with
   | nil=>cases ds <;> exact h.elim
   | cons v vs =>
     cases ds with
     | nil=>exact h.elim
     | cons d ds =>
       obtain ⟨p,q,h1,h2,rfl⟩:=h
       rw [List.all_cons,Bool.and_eq_true,Bool.and_eq_true,decide_eq_true_eq] at hr
       exact ⟨p,q,Below.trod hl hr.1.1 hr.1.2 h1 hb (fun x hx=>hlt x (List.mem_append_left _ hx)),ih vs ds q hr.2 h2 (fun x hx=>hlt x (List.mem_append_right _ hx)),rfl⟩
theorem VA {f:Func} {s:ChangeSpec} {W W':World} {args:Array Value} {ds gs:List (DataW H)} {before:List MemPlace} {tb:TypeId}
 (hl:laidOutB P=true)(hr:(f.params.toList.all fun t=>P.readableRec t&&decide (t<P.types.size))=true)(hb:P.underlying tb=some .bool)(hres:f.resultTypes=#[tb])(hvars:s.vars=[])
 (hW:DataW.Whole enc P f.params.toList s.vars false W args.toList ds gs before)(h1:(s.fn H (ds++gs)).results=[.lit (.bool true)])(h2:(s.fn H (ds++gs)).args=ds)(h3:(s.fn H (ds++gs)).vars=[])
 (hbelow:Below W.heap.size W W'):s.post enc P f false true false false W args (.bool true) W':=by
 have hW':=hW
 obtain ⟨p,q,hA,hV,rfl,hfz,hnd⟩:=hW
 rw [hvars] at hV
 have hq:q=[]:=by
  cases gs with
  | nil=>exact hV
  | cons g gs=>exact hV.elim
 subst hq
 have hlt:∀ x∈p,x.block<W.heap.size:=fun x hx=>by simpa using hW'.lt x (by simpa using hx)
 refine ⟨ds,gs,p++[],[],p,[],hW',?_,?_,?_,hbelow.frame _,fun h=>by cases h⟩
 ·rw [h1,hres]
  exact trodAll_cons_mk (shut_bool hb _) trodAll_mk0
 ·rw [h2]
  exact Ew hl hbelow _ _ _ _ hr hA hlt
 ·rw [h3,hvars];rfl
end
end Go.Proofs.YtjhkihkiebnpaaaGreatDoor
namespace Go.Proofs.YtjhkihkiebnpaaaGreatDoor.checkRight
open Go.ChangeShapes Go.WideShapes Go.ChangeAt Go.RowKit
theorem adV {a b:Bool} (ha:a=true)(hb:b=true):(a&&b)=true:=by rw [ha,hb];rfl
theorem joined:joinedFacts Tryz.pinned.checked.prog 3 Tryz.f3 (OpenSpec.ofChange Rows.checkRightSpec).bare Rows.checkRightRow=true:=by
 unfold joinedFacts
 repeat' with_reducible apply adV
 all_goals (as_aux_lemma=>kernel_rfl)
theorem named:Tryz.pinned.checked.prog.funcNamed "confluence/confluencelaw10.CheckRight"=some 3:=by kernel_rfl
theorem inst:Tryz.f3.isInstance Tryz.pinned.checked.prog Rows.checkRightRow.origin Rows.checkRightRow.targs:=of_decide_eq_true (by kernel_rfl)
theorem wrap:Tryz.f3.isWrapper Tryz.pinned.checked.prog Rows.checkRightRow.wrapper Rows.checkRightRow.mainSum:=by unfold Func.isWrapper;first | (rw [if_pos (by decide +kernel)];kernel_rfl) | (rw [if_neg (by decide +kernel)];exact ⟨rfl,rfl⟩)
end Go.Proofs.YtjhkihkiebnpaaaGreatDoor.checkRight
