/-
  Law 10: CheckJoins. (gen_ck15.py)
-/
import Derived.Test.YtjhkihkiebnpaaaGreatDoorMj0
import Derived.Test.YtjhkihkiebnpaaaGreatDoorMj18
set_option linter.unusedVariables false
set_option linter.unusedSimpArgs false
set_option maxRecDepth 100000
set_option maxHeartbeats 40000000
namespace Go.Proofs.YtjhkihkiebnpaaaGreatDoor
open Go.RowKit
theorem FK (s o:ByteArray)(W:World)(hE:Env W):Calls Tryz.prog 4 #[.string s,.string o] W fun e W'=>e=.returned (.bool true)∧Below W.heap.size W W':=by
 have HE:=ae hE
 obtain⟨i0,hi,hz0,hz1,hz2⟩:=info_parts vw
 have mixed:Tryz.prog.follows .mixedOrders=true:=by kernel_rfl
 clear hE
 go_enter Tryz.func4,Tryz.ntmps4
 go_upto_if 28 with (fail)
 go_cut [0] (fun v wx=>(∃ s':ByteArray,v=.string s')∧wx=W)
 case first =>
  cases h6:decide (150<(s.size:Int))
  ·go_wp2_with fail
   go_meet
   exact⟨⟨s,rfl⟩,rfl⟩
  ·have h6':150≤s.size:=by have:=of_decide_eq_true h6;omega
   go_wp2_with fail
   go_meet
   exact⟨⟨_,rfl⟩,rfl⟩
 case rest =>
  obtain⟨⟨s',rfl⟩,rfl⟩:=hcut
  go_upto_if 33 with (fail)
  go_cut [1] (fun v wx=>(∃ s':ByteArray,v=.string s')∧wx=wc)
  case first =>
   cases h6:decide (150<(o.size:Int))
   ·go_wp2_with fail
    go_meet
    exact⟨⟨o,rfl⟩,rfl⟩
   ·have h6':150≤o.size:=by have:=of_decide_eq_true h6;omega
    go_wp2_with fail
    go_meet
    exact⟨⟨_,rfl⟩,rfl⟩
  case rest =>
   obtain⟨⟨o',rfl⟩,hwc⟩:=hcut
   subst hwc
   go_wp2_with fail
   refine (WA s' _).mono ?_
   rintro e w1 ⟨⟨a,p,rfl,hA,hp⟩,hb1⟩
   have HPz:Hid (p=gq∨TF p):=ae hp
   obtain⟨pv,hpv⟩:∃ v,v=p.val a:=⟨_,rfl⟩
   rw[←hpv]
   have HPV:=ae hpv
   clear hp hpv
   have HA1:=ae hA
   have HB1:=ae hb1
   clear hA hb1
   go_wp2_with fail
   refine (WA o' _).mono ?_
   rintro e w2 ⟨⟨a2,q,rfl,hA2,hq⟩,hb2⟩
   have HQz:Hid (q=gq∨TF q):=ae hq
   rw[HPV.o]
   obtain⟨w3,ny⟩:∃ w3,w3=(w2.alloc (.cells (P.bx p a) 27)).alloc (.cells (P.bx q a2) 27):=⟨_,rfl⟩
   have Zw:Below w2.heap.size w2 w3:=by rw[ny];exact ((aG _ _).alloc (aF _) _).alloc (by simp) _
   have nO:Hid (w3.heap[w2.heap.size]?=some (.cells (P.bx p a) 27 (0,0))):=ae (by rw[ny];exact (aP _ _ _ (by simp)).trans (aH w2 _))
   have HY3:Hid (w3.heap[w2.heap.size+1]?=some (.cells (P.bx q a2) 27 (0,0))):=ae (by rw[ny];have:=aH (w2.alloc (.cells (P.bx p a) 27)) (.cells (P.bx q a2) 27 (0,0));simpa using this)
   have hsX:w2.heap.size<w3.heap.size:=(aU.1 nO.o).1
   have hsY:w2.heap.size+1<w3.heap.size:=(aU.1 HY3.o).1
   have HB3:Hid (Below wc.heap.size wc w3):=ae ((HB1.o.trans (hb2.mono HB1.o.size)).trans (Zw.mono (aS HB1.o.size hb2.size)))
   have HA3:Hid (kY w3 (LT w2) p a):=ae ((HA1.o.kept fun k hk=>(Zw.block k (aK hk.2 hb2.size)).trans (hb2.block k hk.2)).mono fun k hk=>aK hk.2 hb2.size)
   have acz:Hid (kY w3 (LT w2) q a2):=ae ((hA2.kept fun k hk=>Zw.block k hk.2).mono fun k hk=>hk.2)
   have HW3:=ae ny
   have hlow:∀ (p:P)(a:PA),kY w3 (LT w2) p a→∀ we,Below w3.heap.size w3 we→kY we (LT we) p a:=fun p a h we hb=>(h.kept fun k hk=>hb.block k (Nat.lt_trans hk hsX)).mono fun k hk=>aK (Nat.lt_trans hk hsX) hb.size
   have HOP:Hid (∀ wd we,Below w3.heap.size w3 wd→Below wd.heap.size wd we→mf we (fun q=>wd.heap.size≤q∧q<we.heap.size) (some ⟨wd.heap.size+2,0,none⟩) (pX wd.heap.size)→Calls Tryz.prog 8 #[p.val a,.slice (some ⟨wd.heap.size+2,0,none⟩) 2 2] we fun e w'=>uB (pX wd.heap.size) p we e w'∧Below we.heap.size we w'):=ae (fun wd we h1 h2 h3 =>
    lT (pX wd.heap.size) (by show 2≤1000;decide) (ug _) (Bh _) p (HPz.o.imp id fun h=>⟨h.good,h.prn⟩) a we (hlow p a HA3.o we (h1.trans (h2.mono h1.size))) (HE.o.low (HB3.o.trans ((h1.trans (h2.mono h1.size)).mono HB3.o.size))) (some ⟨wd.heap.size+2,0,none⟩) 2 (by show 2≤2;decide) (h3.mono fun k hk=>hk.2))
   have HOQ:Hid (∀ wd we,Below w3.heap.size w3 wd→Below wd.heap.size wd we→mf we (fun q=>wd.heap.size≤q∧q<we.heap.size) (some ⟨wd.heap.size+2,0,none⟩) (pX wd.heap.size)→Calls Tryz.prog 8 #[q.val a2,.slice (some ⟨wd.heap.size+2,0,none⟩) 2 2] we fun e w'=>uB (pX wd.heap.size) q we e w'∧Below we.heap.size we w'):=ae (fun wd we h1 h2 h3 =>
    lT (pX wd.heap.size) (by show 2≤1000;decide) (ug _) (Bh _) q (HQz.o.imp id fun h=>⟨h.good,h.prn⟩) a2 we (hlow q a2 acz.o we (h1.trans (h2.mono h1.size))) (HE.o.low (HB3.o.trans ((h1.trans (h2.mono h1.size)).mono HB3.o.size))) (some ⟨wd.heap.size+2,0,none⟩) 2 (by show 2≤2;decide) (h3.mono fun k hk=>hk.2))
   have HOJ:Hid (∀ (we:World)(na nb:ByteArray)(b1 b2 b3 g:Nat)(t1 t2 t3:TypeId),TF p→TF q→nameB na=true→nameB nb=true→Below w3.heap.size w3 we→we.heap[b1]?=some (.cells #[.string na] t1 (0,0))→we.heap[b2]?=some (.cells #[.string nb] t2 (0,0)) →
    we.heap[b3]?=some (.cells (P.bxq p q a a2) t3 (0,0))→mf we (LT we) (some ⟨g+2,0,none⟩) (pX g)→Calls Tryz.prog 8 #[.agg #[.int .i64 4,.string ⟨#[]⟩,.slice none 0 0,.slice none 0 0,.slice (some ⟨b1,0,none⟩) 1 1,.slice (some ⟨b2,0,none⟩) 1 1,.slice none 0 0,.slice (some ⟨b3,0,none⟩) 2 2],.slice (some ⟨g+2,0,none⟩) 2 2] we fun e w'=>uB (pX g) (xy p q na nb) we e w'∧Below we.heap.size we w'):=ae (fun we na nb b1 b2 b3 g t1 t2 t3 ho1 ho2 hna hnb hb h1 h2 h3 hD =>
    lT (pX g) (by show 2≤1000;decide) (ug _) (Bh _) (xy p q na nb) (.inr ⟨TM ho1.good ho2.good hna hnb,WH ho1.prn ho2.prn (Fb ho1) (Fb ho2) (nZ hna).2 (nZ hnb).2⟩) (Z9 b1 b2 b3) we (Zj (hlow p a HA3.o we hb) (hlow q a2 acz.o we hb) h1 h2 h3 (sN h1) (sN h2) (sN h3)) (HE.o.low (HB3.o.trans (hb.mono HB3.o.size))) (some ⟨g+2,0,none⟩) 2 (by show 2≤2;decide) hD)
   have HOG:Hid (∀ (we:World)(na:ByteArray)(b1 b2 b3 g:Nat)(t1 t2 t3:TypeId),TF p→nameB na=true→Below w3.heap.size w3 we→we.heap[b1]?=some (.cells #[.string na] t1 (0,0))→we.heap[b2]?=some (.cells #[.string ⟨#[122,122]⟩,.string ⟨#[99,111,117,110,116]⟩,.string ⟨#[]⟩] t2 (0,0)) →
    we.heap[b3]?=some (.cells (P.bx p a) t3 (0,0))→mf we (LT we) (some ⟨g+2,0,none⟩) (pX g)→Calls Tryz.prog 8 #[.agg #[.int .i64 7,.string ⟨#[]⟩,.slice none 0 0,.slice none 0 0,.slice (some ⟨b1,0,none⟩) 1 1,.slice none 0 0,.slice (some ⟨b2,0,none⟩) 1 1,.slice (some ⟨b3,0,none⟩) 1 1],.slice (some ⟨g+2,0,none⟩) 2 2] we fun e w'=>uB (pX g) (Gw p na) we e w'∧Below we.heap.size we w'):=ae (fun we na b1 b2 b3 g t1 t2 t3 ho1 hna hb h1 h2 h3 hD =>
    lT (pX g) (by show 2≤1000;decide) (ug _) (Bh _) (Gw p na) (.inr ⟨WG ho1.good hna,Zi ho1.prn (Fb ho1) (nZ hna).2⟩) (afe b1 b2 b3) we (acs (hlow p a HA3.o we hb) h1 h2 h3 (sN h1) (sN h2) (sN h3)) (HE.o.low (HB3.o.trans (hb.mono HB3.o.size))) (some ⟨g+2,0,none⟩) 2 (by show 2≤2;decide) hD)
   clear ny Zw hA2 hq hb2 hlow HPV HA1 HB1
   simp only[P.bx,P.bxq,P.val] at nO HY3 HW3 HOP HOQ HOJ HOG ⊢
   clear HA3 acz
   obtain⟨xk,hxk⟩:∃ v,v=p.k:=⟨_,rfl⟩
   obtain⟨zk,hzk⟩:∃ v,v=q.k:=⟨_,rfl⟩
   rw[←hxk] at nO HW3 HOP HOJ HOG ⊢
   rw[←hzk] at HY3 HW3 HOQ HOJ ⊢
   clear hxk hzk
   generalize p.nm=JH at *
   generalize p.ex.length=x1 at *
   generalize p.cols.length=x2 at *
   generalize p.left.length=x3 at *
   generalize p.right.length=x4 at *
   generalize p.ag.length=x5 at *
   generalize p.kids.length=x6 at *
   generalize q.nm=znm at *
   generalize q.ex.length=z1 at *
   generalize q.cols.length=z2 at *
   generalize q.left.length=z3 at *
   generalize q.right.length=z4 at *
   generalize q.ag.length=z5 at *
   generalize q.kids.length=z6 at *
   obtain⟨ea,ec,ca,cc,la,lc,ra,rc,ga,gc,ka,kc⟩:=a
   obtain⟨OQ,OT,ca',cc',la',OU,OV,rc',ga',gc',OW,OX⟩:=a2
   simp only at nO HY3 HW3 HOP HOQ HOJ HOG ⊢
   go_upto_region 6 with (fail)
   rw[←HW3.o]
   refine wp_region_held_drew (S:=fun w'=>Below w3.heap.size w3 w') (by kernel_rfl) ((aG w3.heap.size w3).drew) (fun hHeld=>?_)
   refine aC (i:=0) (v:=(.agg #[.int .i64 xk,.string JH,.slice ea x1 ec,.slice ca x2 cc,.slice la x3 lc,.slice ra x4 rc,.slice ga x5 gc,.slice ka x6 kc])) rfl (by kernel_rfl) aA (bD ⟨by rfl,fun w1' hSw=>by (have y9:=dO ((hSw.block w2.heap.size hsX).trans nO.o);obtain⟨y0,y1,y2,y3,y4,y5,y6,y7,_,_,_,_,_,_,_,_⟩:=y9;go_simp)⟩) ‹_› ?_
   simp only[ah,ai,Act.put,au,ay,az]
   refine wpAnyH_ready (rs:=[1]) (by kernel_rfl) (by simp) ?_
   refine AllReadyH.cons rfl (fun K hK=>?_) AllReadyH.nil
   simp only[ah,aj,ai]
   go_simp
   refine (sK w3.drew).mono ?_
   rintro e w4 ⟨⟨rfl,hD3⟩,hb3⟩
   have HB4:Hid (Below w3.heap.size w3 w4):=ae ((aG w3.heap.size w3).drew.trans hb3)
   have Xl:=ae (HOP.o w3.drew w4 (aG w3.heap.size w3).drew hb3 hD3)
   go_wp2_with fail
   refine hK.o _ _ HB4.o (fun hHeld=>?_)
   clear hK K hb3 hD3
   refine wpAnyH_ready (rs:=[2]) (by kernel_rfl) (by simp) ?_
   refine AllReadyH.cons rfl (fun K hK=>?_) AllReadyH.nil
   simp only[ah,aj,ai]
   go_simp
   refine (Xl.o).mono ?_
   rintro e w5 ⟨hO,hb4⟩
   obtain⟨An,nA,cA,yA,mA,rfl,hoA⟩:=BX HPz.o hO
   have HOA:=ae hoA
   have jA:Hid (Below w3.heap.size w3 w5):=ae (HB4.o.trans (hb4.mono HB4.o.size))
   go_wp2_with fail
   refine hK.o _ _ jA.o (fun hHeld=>?_)
   clear hK K hb4 hO hoA
   refine aC (i:=3) (v:=.tuple #[.slice An (nA) cA,.int .i64 yA,.string mA]) rfl (by kernel_rfl) aA (bD ⟨by rfl,fun _ _=>by go_simp⟩) ‹_› ?_
   simp only[ah,aj,ai,Act.put,au,ay,az]
   refine aC (i:=4) (v:=.slice An (nA) cA) rfl (by kernel_rfl) aA (bD ⟨by rfl,fun _ _=>by go_simp⟩) ‹_› ?_
   simp only[ah,aj,ai,Act.put,au,ay,az]
   refine aC (i:=5) (v:=.int .i64 yA) rfl (by kernel_rfl) aA (bD ⟨by rfl,fun _ _=>by go_simp⟩) ‹_› ?_
   simp only[ah,aj,ai,Act.put,au,ay,az]
   refine aC (i:=6) (v:=.string mA) rfl (by kernel_rfl) aA (bD ⟨by rfl,fun _ _=>by go_simp⟩) ‹_› ?_
   simp only[ah,aj,ai,Act.put,au,ay,az]
   refine aC (i:=7) (v:=.slice An (nA) cA) rfl (by kernel_rfl) aA (bD ⟨by rfl,fun _ _=>by go_simp⟩) ‹_› ?_
   simp only[ah,aj,ai,Act.put,au,ay,az]
   refine aC (i:=8) (v:=.int .i64 yA) rfl (by kernel_rfl) aA (bD ⟨by rfl,fun _ _=>by go_simp⟩) ‹_› ?_
   simp only[ah,aj,ai,Act.put,au,ay,az]
   refine aC (i:=9) (v:=.string mA) rfl (by kernel_rfl) aA (bD ⟨by rfl,fun _ _=>by go_simp⟩) ‹_› ?_
   simp only[ah,aj,ai,Act.put,au,ay,az]
   refine wpAnyH_done (by kernel_rfl) ?_ _
   have HY5:=ae ((jA.o.block _ hsY).trans HY3.o)
   have ajd:w2.heap.size+1<w5.heap.size:=aK hsY jA.o.size
   go_upto_region 7 with (fail)
   refine wp_region_held_drew (S:=fun w'=>Below w5.heap.size w5 w') (by kernel_rfl) ((aG w5.heap.size w5).drew) (fun hHeld=>?_)
   refine aC (i:=0) (v:=(.agg #[.int .i64 zk,.string znm,.slice OQ z1 OT,.slice ca' z2 cc',.slice la' z3 OU,.slice OV z4 rc',.slice ga' z5 gc',.slice OW z6 OX])) rfl (by kernel_rfl) aA (bD ⟨by rfl,fun w1' hSw=>by (have y9:=dO ((hSw.block (w2.heap.size+1) ajd).trans HY5.o);obtain⟨y0,y1,y2,y3,y4,y5,y6,y7,_,_,_,_,_,_,_,_⟩:=y9;go_simp)⟩) ‹_› ?_
   simp only[ah,ai,Act.put,au,ay,az]
   refine wpAnyH_ready (rs:=[1]) (by kernel_rfl) (by simp) ?_
   refine AllReadyH.cons rfl (fun K hK=>?_) AllReadyH.nil
   simp only[ah,aj,ai]
   go_simp
   refine (sK w5.drew).mono ?_
   rintro e w6 ⟨⟨rfl,hD3⟩,hb3⟩
   have kD:Hid (Below w5.heap.size w5 w6):=ae ((aG w5.heap.size w5).drew.trans hb3)
   have Xl:=ae (HOQ.o w5.drew w6 jA.o.drew hb3 hD3)
   go_wp2_with fail
   refine hK.o _ _ kD.o (fun hHeld=>?_)
   clear hK K hb3 hD3
   refine wpAnyH_ready (rs:=[2]) (by kernel_rfl) (by simp) ?_
   refine AllReadyH.cons rfl (fun K hK=>?_) AllReadyH.nil
   simp only[ah,aj,ai]
   go_simp
   refine (Xl.o).mono ?_
   rintro e w7 ⟨hO,hb4⟩
   obtain⟨Bn,nB,cB,yB,mB,rfl,hoB⟩:=BX HQz.o hO
   have ZH:=ae hoB
   have Zx:Hid (Below w5.heap.size w5 w7):=ae (kD.o.trans (hb4.mono kD.o.size))
   go_wp2_with fail
   refine hK.o _ _ Zx.o (fun hHeld=>?_)
   clear hK K hb4 hO hoB
   refine aC (i:=3) (v:=.tuple #[.slice Bn (nB) cB,.int .i64 yB,.string mB]) rfl (by kernel_rfl) aA (bD ⟨by rfl,fun _ _=>by go_simp⟩) ‹_› ?_
   simp only[ah,aj,ai,Act.put,au,ay,az]
   refine aC (i:=4) (v:=.slice Bn (nB) cB) rfl (by kernel_rfl) aA (bD ⟨by rfl,fun _ _=>by go_simp⟩) ‹_› ?_
   simp only[ah,aj,ai,Act.put,au,ay,az]
   refine aC (i:=5) (v:=.int .i64 yB) rfl (by kernel_rfl) aA (bD ⟨by rfl,fun _ _=>by go_simp⟩) ‹_› ?_
   simp only[ah,aj,ai,Act.put,au,ay,az]
   refine aC (i:=6) (v:=.string mB) rfl (by kernel_rfl) aA (bD ⟨by rfl,fun _ _=>by go_simp⟩) ‹_› ?_
   simp only[ah,aj,ai,Act.put,au,ay,az]
   refine aC (i:=7) (v:=.slice Bn (nB) cB) rfl (by kernel_rfl) aA (bD ⟨by rfl,fun _ _=>by go_simp⟩) ‹_› ?_
   simp only[ah,aj,ai,Act.put,au,ay,az]
   refine aC (i:=8) (v:=.int .i64 yB) rfl (by kernel_rfl) aA (bD ⟨by rfl,fun _ _=>by go_simp⟩) ‹_› ?_
   simp only[ah,aj,ai,Act.put,au,ay,az]
   refine aC (i:=9) (v:=.string mB) rfl (by kernel_rfl) aA (bD ⟨by rfl,fun _ _=>by go_simp⟩) ‹_› ?_
   simp only[ah,aj,ai,Act.put,au,ay,az]
   refine wpAnyH_done (by kernel_rfl) ?_ _
   have Dk:Hid (Below w3.heap.size w3 w7):=ae (jA.o.trans (Zx.o.mono jA.o.size))
   have FM:Hid (Below wc.heap.size wc w7):=ae (HB3.o.trans (Dk.o.mono HB3.o.size))
   by_cases hyA:yA=0
   ·subst hyA
    obtain⟨afk,acA,v0,vs,hva,hna,hv5,hcA,hrA,hRA⟩:=HOA.o rfl
    by_cases hyB:yB=0
    ·subst hyB
     obtain⟨afl,afm,u0,us,hub,hnb,hu5,hcB,hrB,hRB⟩:=ZH.o rfl
     subst hna
     subst hnb
     have HFP:=ae afk
     have HFQ:=ae afl
     have acB:=ae acA
     have acC:=ae afm
     have HVA:=ae hva
     have HUB:=ae hub
     have ZC:=ae hrA
     have ZE:=ae hrB
     have HCA:Hid (iY w7 (fun q=>w4.heap.size≤q∧q<w5.heap.size) An (v0::vs)):=ae (hRA.kept fun k hk=>Zx.o.block k hk.2)
     have HCB:=ae hRB
     clear afk afl acA afm hva hub hrA hrB hRA hRB HOA ZH
     by_cases h5:vs.length≤4
     ·have HV4:=ae h5
      obtain⟨nv,hnv⟩:∃ nv,vs.length=nv:=⟨_,rfl⟩
      obtain⟨nu,hnu⟩:∃ nu,us.length=nu:=⟨_,rfl⟩
      have HNV:=ae hnv
      have HNU:=ae hnu
      rw[hnv] at h5 hcA
      rw[hnu] at hu5 hcB
      rw[hnv,hnu]
      obtain⟨bA,oA,rfl,hsA,hcellA⟩:∃ b o,An=some ⟨b,o,none⟩∧b<w7.heap.size∧JO w7 b o (v0::vs):=by
       rcases HCA.o with h|⟨b,o,h1,h2,h3⟩
       ·cases h
       ·exact⟨b,o,h1,aK h2.2 Zx.o.size,h3⟩
      obtain⟨bB,oB,rfl,hsB,hcellB⟩:∃ b o,Bn=some ⟨b,o,none⟩∧b<w7.heap.size∧JO w7 b o (u0::us):=by
       rcases HCB.o with h|⟨b,o,h1,h2,h3⟩
       ·cases h
       ·exact⟨b,o,h1,h2.2,h3⟩
      have HAT:=ae hcellA
      have oN:=ae hcellB
      have Qd:Hid (∀ w',Below w7.heap.size w7 w'→w'.cell? ⟨bA,oA,none⟩=some (.string v0.nm)∧w'.cell? ⟨bA,oA+1,none⟩=some (.int .i64 v0.k)):=ae (fun w' hb=>⟨(hb.cell (p:=⟨bA,oA,none⟩) hsA).trans (hcellA 0 v0 rfl).1,(hb.cell (p:=⟨bA,oA+1,none⟩) hsA).trans (hcellA 0 v0 rfl).2⟩)
      have HCY:Hid (∀ w',Below w7.heap.size w7 w'→w'.cell? ⟨bB,oB,none⟩=some (.string u0.nm)∧w'.cell? ⟨bB,oB+1,none⟩=some (.int .i64 u0.k)):=ae (fun w' hb=>⟨(hb.cell (p:=⟨bB,oB,none⟩) hsB).trans (hcellB 0 u0 rfl).1,(hb.cell (p:=⟨bB,oB+1,none⟩) hsB).trans (hcellB 0 u0 rfl).2⟩)
      have Qg:Hid (nameB v0.nm=true):=ae (nY _ _ ZC.o v0 (bH ..)).1
      have HNB:Hid (nameB u0.nm=true):=ae (nY _ _ ZE.o u0 (bH ..)).1
      obtain⟨RJ,hRJ⟩:∃ R,R=qU (v0::vs) (u0::us) [v0.nm] [u0.nm]:=⟨_,rfl⟩
      have HRJ:=ae hRJ
      have HRG:Hid (∀ g,gK (pX g) (xy p q v0.nm u0.nm)=RJ):=ae (fun g=>by
       rw[Fe g 0,TL acB.o acC.o,HVA.o,HUB.o,hRJ])
      have HX7:=ae ((Dk.o.block _ hsX).trans nO.o)
      have HY7:=ae ((Dk.o.block _ hsY).trans HY3.o)
      have ajl:w2.heap.size<w7.heap.size:=aK hsX Dk.o.size
      have ajm:w2.heap.size+1<w7.heap.size:=aK hsY Dk.o.size
      have HVN:Hid (v0.nm=v0.nm):=ae rfl
      clear hcellA hcellB hRJ hnv hnu HCA HCB
      have e1:(((nu+1:Nat):Int)==0)=false:=by simp;omega
      have e2:(((nv+1:Nat):Int)==0)=false:=by simp;omega
      have e3:decide ((5:Int)<((nv+1:Nat):Int))=false:=decide_eq_false (by omega)
      have e3':decide ((5:Int)<(nv:Int)+1)=false:=decide_eq_false (by omega)
      have aip:¬((5:Int)<(nv:Int)+1):=by omega
      have f1:(((nv:Int)+1)==0)=false:=by simp;omega
      have f2:(((nu:Int)+1)==0)=false:=by simp;omega
      have f3:¬(nv:Int)+1=0:=by omega
      have f4:¬(nu:Int)+1=0:=by omega
      have e4:0<nv+1:=Nat.succ_pos _
      have e5:0<nu+1:=Nat.succ_pos _
      have e6:(0:Int)<((nv+1:Nat):Int):=by omega
      have e7:(0:Int)<((nu+1:Nat):Int):=by omega
      go_upto_region 10 with (fail)
      refine dP.xB (L:=16) (F:=7) (LL:=#[true,true,true,true,true,true,true,true,true,true,true,true,true,true,true,true,false,false,false,false,false,false,false]) (R:=dP.FH [.is (.slice (some ⟨bA,oA,none⟩) (nv+1) cA),.is (.pointer (some ⟨bA,oA,none⟩)),.is (.pointer (some ⟨bA,oA,none⟩)),.is (.string v0.nm),.blk w7.heap.size 9 1 #[.string v0.nm],.is (.slice (some ⟨bB,oB,none⟩) (nu+1) cB),.is (.pointer (some ⟨bB,oB,none⟩)),.is (.pointer (some ⟨bB,oB,none⟩)),.is (.string u0.nm),.blk w7.heap.size 9 1 #[.string u0.nm],.is (.agg #[.int .i64 xk,.string JH,.slice ea x1 ec,.slice ca x2 cc,.slice la x3 lc,.slice ra x4 rc,.slice ga x5 gc,.slice ka x6 kc]),.is (.agg #[.int .i64 zk,.string znm,.slice OQ z1 OT,.slice ca' z2 cc',.slice la' z3 OU,.slice OV z4 rc',.slice ga' z5 gc',.slice OW z6 OX]),.blk w7.heap.size 27 2 #[.int .i64 xk,.string JH,.slice ea x1 ec,.slice ca x2 cc,.slice la x3 lc,.slice ra x4 rc,.slice ga x5 gc,.slice ka x6 kc,.int .i64 zk,.string znm,.slice OQ z1 OT,.slice ca' z2 cc',.slice la' z3 OU,.slice OV z4 rc',.slice ga' z5 gc',.slice OW z6 OX],dP.jvF v0.nm u0.nm #[.int .i64 xk,.string JH,.slice ea x1 ec,.slice ca x2 cc,.slice la x3 lc,.slice ra x4 rc,.slice ga x5 gc,.slice ka x6 kc,.int .i64 zk,.string znm,.slice OQ z1 OT,.slice ca' z2 cc',.slice la' z3 OU,.slice OV z4 rc',.slice ga' z5 gc',.slice OW z6 OX],dP.dfF,dP.jrF RJ w7.heap.size]) (ds:=[some 77,some 78,some 79,some 80,some 81,some 82,some 83,some 84,some 85,some 86,some 87,some 88,some 89,some 90,some 91,some 92,some 76,some 93,some 94,some 95,some 13,some 14,some 15]) (dl:=[some 77,some 78,some 79,some 80,some 81,some 82,some 83,some 84,some 85,some 86,some 87,some 88,some 89,some 90,some 91,some 92]) (MS:=[0,1,3,7,15,0,32,96,224,480,0,0,3072,8191,0,32767,65535,131071,131071,131071,262143,1572863,4194303]) mixed (by kernel_rfl) (by kernel_rfl) (by kernel_rfl) (by kernel_rfl) rfl (by kernel_rfl) (by kernel_rfl) rfl (by kernel_rfl) (by kernel_rfl) (dP.Cf _)
       (fun a0=>a0.tmps.getD 5 undef=.pointer (some ⟨w2.heap.size,0,none⟩)∧a0.tmps.getD 6 undef=.pointer (some ⟨w2.heap.size+1,0,none⟩)∧a0.tmps.getD 7 undef=.slice (some ⟨bA,oA,none⟩) (nv+1) cA∧a0.tmps.getD 10 undef=.slice (some ⟨bB,oB,none⟩) (nu+1) cB) ⟨rfl,rfl,rfl,rfl⟩ ?_ ?_
      ·intro hds Q' a0 ⟨og5,og6,og7,ajp⟩
       refine dP.Each.cons (fun _=>dP.gY.free rfl (fun a1 w1 hB hL1 hk K hK=>?_)) ?_
       ·have s7:a1.tmps.getD 7 undef=.slice (some ⟨bA,oA,none⟩) (nv+1) cA:=hL1.old rfl og7
        clear hk hL1
        go_simp
        exact hK _ _ (aG _ _) rfl
       refine dP.Each.cons (fun _=>dP.gY.free rfl (fun a1 w1 hB hL1 hk K hK=>?_)) ?_
       ·have s77:a1.tmps.getD 77 undef=.slice (some ⟨bA,oA,none⟩) (nv+1) cA:=(hk 0 rfl).is rfl (fun _ h=>h)
        clear hk hL1
        go_simp
        exact hK _ _ (aG _ _) rfl
       refine dP.Each.cons (fun _=>dP.gY.free rfl (fun a1 w1 hB hL1 hk K hK=>?_)) ?_
       ·have s78:a1.tmps.getD 78 undef=.pointer (some ⟨bA,oA,none⟩):=(hk 1 rfl).is rfl (fun _ h=>h)
        clear hk hL1
        go_simp
        exact hK _ _ (aG _ _) rfl
       refine dP.Each.cons (fun _=>dP.gY.free rfl (fun a1 w1 hB hL1 hk K hK=>?_)) ?_
       ·have s79:a1.tmps.getD 79 undef=.pointer (some ⟨bA,oA,none⟩):=(hk 2 rfl).is rfl (fun _ h=>h)
        have cx:=(Qd.o w1 hB).1
        clear hk hL1
        go_simp
        exact hK _ _ (aG _ _) rfl
       refine dP.Each.cons (fun _=>dP.gY.free rfl (fun a1 w1 hB hL1 hk K hK=>?_)) ?_
       ·have s80:a1.tmps.getD 80 undef=.string v0.nm:=(hk 3 rfl).is rfl (fun _ h=>h)
        have ajq:=s80
        rw[bQ] at ajq
        clear hk hL1
        go_simp
        exact hK _ _ ((aG _ _).alloc (aF _) _) ⟨w1.heap.size,rfl,hB.size,aH w1 _⟩
       refine dP.Each.cons (fun _=>dP.gY.free rfl (fun a1 w1 hB hL1 hk K hK=>?_)) ?_
       ·have s10:a1.tmps.getD 10 undef=.slice (some ⟨bB,oB,none⟩) (nu+1) cB:=hL1.old rfl ajp
        clear hk hL1
        go_simp
        exact hK _ _ (aG _ _) rfl
       refine dP.Each.cons (fun _=>dP.gY.free rfl (fun a1 w1 hB hL1 hk K hK=>?_)) ?_
       ·have s82:a1.tmps.getD 82 undef=.slice (some ⟨bB,oB,none⟩) (nu+1) cB:=(hk 5 rfl).is rfl (fun _ h=>h)
        clear hk hL1
        go_simp
        exact hK _ _ (aG _ _) rfl
       refine dP.Each.cons (fun _=>dP.gY.free rfl (fun a1 w1 hB hL1 hk K hK=>?_)) ?_
       ·have s83:a1.tmps.getD 83 undef=.pointer (some ⟨bB,oB,none⟩):=(hk 6 rfl).is rfl (fun _ h=>h)
        clear hk hL1
        go_simp
        exact hK _ _ (aG _ _) rfl
       refine dP.Each.cons (fun _=>dP.gY.free rfl (fun a1 w1 hB hL1 hk K hK=>?_)) ?_
       ·have s84:a1.tmps.getD 84 undef=.pointer (some ⟨bB,oB,none⟩):=(hk 7 rfl).is rfl (fun _ h=>h)
        have cx:=(HCY.o w1 hB).1
        clear hk hL1
        go_simp
        exact hK _ _ (aG _ _) rfl
       refine dP.Each.cons (fun _=>dP.gY.free rfl (fun a1 w1 hB hL1 hk K hK=>?_)) ?_
       ·have s85:a1.tmps.getD 85 undef=.string u0.nm:=(hk 8 rfl).is rfl (fun _ h=>h)
        have ajr:=s85
        rw[bQ] at ajr
        clear hk hL1
        go_simp
        exact hK _ _ ((aG _ _).alloc (aF _) _) ⟨w1.heap.size,rfl,hB.size,aH w1 _⟩
       refine dP.Each.cons (fun _=>dP.gY.free rfl (fun a1 w1 hB hL1 hk K hK=>?_)) ?_
       ·have s5:a1.tmps.getD 5 undef=.pointer (some ⟨w2.heap.size,0,none⟩):=hL1.old rfl og5
        obtain⟨y0,y1,y2,y3,y4,y5,y6,y7,_,_,_,_,_,_,_,_⟩:=dO ((hB.block w2.heap.size ajl).trans HX7.o)
        clear hk hL1
        go_simp
        exact hK _ _ (aG _ _) rfl
       refine dP.Each.cons (fun _=>dP.gY.free rfl (fun a1 w1 hB hL1 hk K hK=>?_)) ?_
       ·have s6:a1.tmps.getD 6 undef=.pointer (some ⟨w2.heap.size+1,0,none⟩):=hL1.old rfl og6
        obtain⟨y0,y1,y2,y3,y4,y5,y6,y7,_,_,_,_,_,_,_,_⟩:=dO ((hB.block (w2.heap.size+1) ajm).trans HY7.o)
        clear hk hL1
        go_simp
        exact hK _ _ (aG _ _) rfl
       refine dP.Each.cons (fun _=>dP.gY.free rfl (fun a1 w1 hB hL1 hk K hK=>?_)) ?_
       ·have s87:a1.tmps.getD 87 undef=.agg #[.int .i64 xk,.string JH,.slice ea x1 ec,.slice ca x2 cc,.slice la x3 lc,.slice ra x4 rc,.slice ga x5 gc,.slice ka x6 kc]:=(hk 10 rfl).is rfl (fun _ h=>h)
        have s88:a1.tmps.getD 88 undef=.agg #[.int .i64 zk,.string znm,.slice OQ z1 OT,.slice ca' z2 cc',.slice la' z3 OU,.slice OV z4 rc',.slice ga' z5 gc',.slice OW z6 OX]:=(hk 11 rfl).is rfl (fun _ h=>h)
        have ajs:=s87
        rw[bQ] at ajs
        have ajt:=s88
        rw[bQ] at ajt
        clear hk hL1
        go_simp
        exact hK _ _ ((aG _ _).alloc (aF _) _) ⟨w1.heap.size,rfl,hB.size,aH w1 _⟩
       refine dP.Each.cons (fun _=>dP.gY.free rfl (fun a1 w1 hB hL1 hk K hK=>?_)) ?_
       ·obtain⟨v81,s81,b1,rfl,hg1,hb1⟩:=(hk 4 rfl).slot rfl
        obtain⟨v86,s86,b2,rfl,hg2,hb2⟩:=(hk 9 rfl).slot rfl
        obtain⟨v89,s89,b3,rfl,hg3,hb3⟩:=(hk 12 rfl).slot rfl
        have aju:=s81
        rw[bQ] at aju
        have ajv:=s86
        rw[bQ] at ajv
        have ajw:=s89
        rw[bQ] at ajw
        clear hk hL1
        go_simp
        exact hK _ _ (aG _ _) ⟨b1,b2,b3,rfl,hb1,hb2,hb3⟩
       refine dP.Each.cons (fun _=>dP.gY.free rfl (fun a1 w1 hB hL1 hk K hK=>?_)) ?_
       ·clear hk hL1
        go_simp
        refine (sK w1).mono ?_
        rintro e w2' ⟨⟨rfl,hD⟩,hb⟩
        exact hK _ _ hb ⟨w1.heap.size,rfl,hD.mono fun k hk=>hk.2⟩
       refine dP.Each.cons (fun _=>dP.gY.free rfl (fun a1 w1 hB hL1 hk K hK=>?_)) ?_
       ·obtain⟨v90,s90,b1,b2,b3,rfl,h1,h2,h3⟩:=(hk 13 rfl).slot rfl
        obtain⟨v91,s91,g,rfl,hD⟩:=(hk 14 rfl).slot rfl
        clear hk hL1
        go_simp
        refine (HOJ.o w1 _ _ b1 b2 b3 g _ _ _ HFP.o HFQ.o Qg.o HNB.o (Dk.o.trans (hB.mono Dk.o.size)) h1 h2 h3 hD).mono ?_
        rintro e w2' ⟨hO,hb⟩
        obtain⟨A,n,c,y,m,rfl,hJ⟩:=MR (B:=w7.heap.size) hO (HRG.o g) hB.size
        exact hK _ _ hb ⟨A,n,c,y,m,rfl,hJ⟩
       refine dP.Each.cons (fun h=>absurd h (by decide)) ?_
       refine dP.Each.cons (fun h=>absurd h (by decide)) ?_
       refine dP.Each.cons (fun h=>absurd h (by decide)) ?_
       refine dP.Each.cons (fun h=>absurd h (by decide)) ?_
       refine dP.Each.cons (fun h=>absurd h (by decide)) ?_
       refine dP.Each.cons (fun h=>absurd h (by decide)) ?_
       refine dP.Each.cons (fun h=>absurd h (by decide)) ?_
       exact trivial
      ·rintro a' w8 hB hL1 hk
       obtain⟨v92,s92,Jn,nJ,cJ,yJ,mJ,rfl,hJ⟩:=(hk 15 (by decide)).slot rfl
       have HJ:=ae hJ
       have MX:Hid (Below w7.heap.size w7 w8):=ae hB
       obtain⟨u,hu,hui⟩:=hL1.aad
       have afq:=(hui 92).symm.trans s92
       clear hk hL1 hJ hB s92 hui
       subst hu
       refine wpAny_of_held (S:=fun w=>Below w8.heap.size w8 w) _ _ _ _ ?_
       have hHeld:Below w8.heap.size w8 w8:=aG _ _
       simp only[dP.JG,Act.put,ah,aj,ai,au,ay,az]
       rw[afq]
       refine aC (i:=16) (v:=.tuple #[.slice Jn nJ cJ,.int .i64 yJ,.string mJ]) rfl (by kernel_rfl) aA (bD ⟨by rfl,fun _ _=>by go_simp⟩) ‹_› ?_
       simp only[ah,aj,ai,Act.put,au,ay,az]
       refine aC (i:=17) (v:=.slice Jn nJ cJ) rfl (by kernel_rfl) aA (bD ⟨by rfl,fun _ _=>by go_simp⟩) ‹_› ?_
       simp only[ah,aj,ai,Act.put,au,ay,az]
       refine aC (i:=18) (v:=.int .i64 yJ) rfl (by kernel_rfl) aA (bD ⟨by rfl,fun _ _=>by go_simp⟩) ‹_› ?_
       simp only[ah,aj,ai,Act.put,au,ay,az]
       refine aC (i:=19) (v:=.string mJ) rfl (by kernel_rfl) aA (bD ⟨by rfl,fun _ _=>by go_simp⟩) ‹_› ?_
       simp only[ah,aj,ai,Act.put,au,ay,az]
       refine aC (i:=20) (v:=.slice Jn nJ cJ) rfl (by kernel_rfl) aA (bD ⟨by rfl,fun _ _=>by go_simp⟩) ‹_› ?_
       simp only[ah,aj,ai,Act.put,au,ay,az]
       refine aC (i:=21) (v:=.int .i64 yJ) rfl (by kernel_rfl) aA (bD ⟨by rfl,fun _ _=>by go_simp⟩) ‹_› ?_
       simp only[ah,aj,ai,Act.put,au,ay,az]
       refine aC (i:=22) (v:=.string mJ) rfl (by kernel_rfl) aA (bD ⟨by rfl,fun _ _=>by go_simp⟩) ‹_› ?_
       simp only[ah,aj,ai,Act.put,au,ay,az]
       refine wpAnyH_done (by kernel_rfl) ?_ _
       clear afq
       have g1:(1:Int)≤(nu:Int)+1:=by omega
       have g2:1≤nu+1:=by omega
       obtain⟨XB,hXB⟩:∃ X:Option Addr,X=(if cB=1 then some ⟨bB,oB,none⟩ else some ⟨bB,oB+2,none⟩):=⟨_,rfl⟩
       have HXB:=ae hXB
       have afr:Hid (Reads (w8.drew.alloc (.cells #[] 42)) w8.heap.size 2 (some ⟨bA,oA,none⟩) (nv+1) (iM (v0::vs))):=ae (by
        have h:=iY.reads (w:=w7) (S:=fun k=>k=bA) (A:=some ⟨bA,oA,none⟩) (l:=v0::vs) (B:=w7.heap.size) (.inr ⟨bA,oA,rfl,rfl,HAT.o⟩) (fun k hk=>by rw[hk];exact hsA)
        have e:(v0::vs).length=nv+1:=by rw[bf,HNV.o]
        rw[e] at h
        exact (((h.below MX.o).more MX.o.size).drew.alloc (aF _) _))
       have afs:Hid (Reads w8 w8.heap.size 2 XB nu (iM us)):=ae (by rw[hXB];exact ((PX oN.o hsB HNU.o hcB).below MX.o).more MX.o.size)
       have HE8:Hid ((w8.drew.alloc (.cells #[] 42)).ownsRow w8.heap.size 42 2 (.slice (some ⟨w8.heap.size,0,none⟩) 0 0) 0 []):=ae (BI w8.drew 42 (aF _) 2)
       have TU:Hid (Below w8.heap.size w8 (w8.drew.alloc (.cells #[] 42))):=ae ((aG w8.heap.size w8).drew.alloc (aF _) _)
       clear hXB
       go_upto_region 11 with (fail)
       refine wp_region_held_drew (S:=fun w'=>Below w8.heap.size w8 w') (by kernel_rfl) ((aG w8.heap.size w8).drew) (fun hHeld=>?_)
       refine aC (i:=1) (v:=.slice (some ⟨bA,oA,none⟩) (nv+1) cA) rfl (by kernel_rfl) aA (bD ⟨by rfl,fun _ _=>by go_simp⟩) ‹_› ?_
       simp only[ah,aj,ai,Act.put,au,ay,az]
       refine aC (i:=3) (v:=.slice (some ⟨bB,oB,none⟩) (nu+1) cB) rfl (by kernel_rfl) aA (bD ⟨by rfl,fun _ _=>by go_simp⟩) ‹_› ?_
       simp only[ah,aj,ai,Act.put,au,ay,az]
       refine aC (i:=4) (v:=?v4) rfl (by kernel_rfl) aA (bD ⟨by rfl,?hv4⟩) ‹_› ?_
       case hv4=>(intro w1 hSw;(try dsimp only at hSw);go_simp;try with_reducible rfl)
       simp only[ah,aj,ai,Act.put,au,ay,az]
       rw[←HXB.o]
       refine wpAnyH_ready (rs:=[0]) (by kernel_rfl) (by simp) ?_
       refine AllReadyH.cons rfl (fun K hK=>?_) AllReadyH.nil
       simp only[ah,aj,ai]
       go_simp
       refine hK.o _ _ TU.o (fun hHeld=>?_)
       clear hK K
       try simp only[ah,aj,ai,Act.put,au,ay,az,World.size_alloc,World.size_drew]
       refine wpAnyH_ready (rs:=[2]) (by kernel_rfl) (by simp) ?_
       refine AllReadyH.cons rfl (fun K hK=>?_) AllReadyH.nil
       refine fG _ rfl _ _ 29 rfl w8.heap.size 42 i0 _ 2 24 Tryz.underlying29 hi hz0 hz1 hz2 rfl (by decide) _ _ _ rfl HE8.o w8.heap.size _ _ _ (iM (v0::vs)) rfl afr.o (xM _) ?ax1 ?ax2 ?ax3 ?_
       case ax1=>(unfold maxLen;omega)
       case ax2=>omega
       case ax3=>(first|exact TU.o.size|exact PZ.o.size)
       intro v9 w9 hown hgrow hat
       have HO9:Hid (w9.ownsRow w8.heap.size 42 2 v9 (nv+1) (iM (v0::vs))):=ae (by rw[Nat.zero_add,List.nil_append] at hown;exact hown)
       have PZ:Hid (Below w8.heap.size w8 w9):=ae (TU.o.grown hgrow TU.o.size (fun k e=>(HE8.o.lt k e).1))
       have aft:Hid (Reads w9 w8.heap.size 2 XB nu (iM us)):=ae (afs.o.below PZ.o)
       clear hown hgrow hat
       refine hK.o _ _ PZ.o (fun hHeld=>?_)
       clear hK K
       try simp only[ah,aj,ai,Act.put,au,ay,az]
       refine wpAnyH_ready (rs:=[5]) (by kernel_rfl) (by simp) ?_
       refine AllReadyH.cons rfl (fun K hK=>?_) AllReadyH.nil
       refine fG _ rfl _ _ 29 rfl w8.heap.size 42 i0 _ 2 24 Tryz.underlying29 hi hz0 hz1 hz2 rfl (by decide) _ _ _ rfl HO9.o w8.heap.size _ _ _ (iM us) rfl aft.o (xM _) ?ay1 ?ay2 ?ay3 ?_
       case ay1=>(unfold maxLen;omega)
       case ay2=>omega
       case ay3=>(first|exact TU.o.size|exact PZ.o.size)
       intro v10 w10 hown hgrow hat
       obtain⟨LW,hLW⟩:∃ L,L=(v0::vs)++us:=⟨_,rfl⟩
       have HLW:=ae hLW
       have kC:Hid (LW.length=nv+1+nu):=ae (by rw[hLW,aZ,bf,HNV.o,HNU.o])
       have hown2:w10.ownsRow w8.heap.size 42 2 v10 LW.length (iM LW):=by rw[kC.o,hLW,kH];exact hown
       have FN:Hid (Below w8.heap.size w8 w10):=ae (PZ.o.grown hgrow PZ.o.size (fun k e=>(HO9.o.lt k e).1))
       obtain⟨Wn,cW,rfl,hcW,hRW⟩:=qA (S:=fun g=>w8.heap.size≤g∧g<w10.heap.size) hown2 (fun g h1 h2 _=>⟨h1,h2⟩)
       have HRW:=ae hRW
       rw[kC.o] at hcW ⊢
       clear hown hgrow hat hown2 hRW hLW
       refine hK.o _ _ FN.o (fun hHeld=>?_)
       clear hK K
       try simp only[ah,aj,ai,Act.put,au,ay,az]
       refine aC (i:=6) (v:=.slice Wn (nv+1+nu) cW) rfl (by kernel_rfl) aA (bD ⟨by rfl,fun _ _=>by go_simp⟩) ‹_› ?_
       simp only[ah,aj,ai,Act.put,au,ay,az]
       refine wpAnyH_done (by kernel_rfl) ?_ _
       have apL:Hid (Below w3.heap.size w3 w10):=ae (Dk.o.trans ((MX.o.trans (FN.o.mono MX.o.size)).mono Dk.o.size))
       have MZ:Hid (Below w7.heap.size w7 w10):=ae (MX.o.trans (FN.o.mono MX.o.size))
       clear afr afs HE8 TU HO9 aft PZ HXB
       go_upto_region 13 with (fail)
       go_wp2_with fail
       go_loopw [17,18] (fun t i wr=>∃ k:Nat,k≤nu∧i=.int .i64 ((k+1:Nat):Int)∧t=.string (Gv (v0::vs) ⟨#[]⟩ (us.take k))∧Below w10.heap.size w10 wr) (fun _ i _=>nu+1-(intOf i).toNat)
       case atStart=>exact⟨0,aX _,rfl,rfl,aG _ _⟩
       case round =>
        obtain⟨k,hk,rfl,rfl,hb⟩:=hrel
        by_cases hlt:k<nu
        ·obtain⟨Zy,hcc⟩:∃ c,us[k]?=some c:=⟨_,aO (by rw[HNU.o];exact hlt)⟩
         have TY:=ae hb
         have hcl:=oN.o (k+1) Zy (by simpa using hcc)
         have Xm:=ae (WY (vs:=v0::vs) hcc)
         have HCK:Hid (∀ w',Below wr.heap.size wr w'→w'.cell? ⟨bB,oB+(k+1)*2,none⟩=some (.string Zy.nm)):=ae (fun w' hb'=>(((MZ.o.trans (hb.mono MZ.o.size)).trans (hb'.mono (aS MZ.o.size hb.size))).cell (p:=⟨bB,oB+(k+1)*2,none⟩) hsB).trans hcl.1)
         have HFD:Hid (∀ w',Below wr.heap.size wr w'→Calls Tryz.prog 13 #[.slice Wn (nv+1+k) cW,.string Zy.nm] w' fun e w2=>e=.returned (.tuple #[.int .i64 (gU ((v0::vs)++us.take k) Zy.nm),.bool (fO ((v0::vs)++us.take k) Zy.nm)])∧Below w'.heap.size w' w2):=ae (fun w' hb'=>by
          have e1:((v0::vs)++us.take k).length=nv+1+k:=by rw[aZ,bf,HNV.o,List.length_take,HNU.o];omega
          have hr:iY w' (fun g=>w8.heap.size≤g∧g<w10.heap.size) Wn ((v0::vs)++us.take k):=by
           have h:=HRW.o.kept fun g hg=>((hb.trans (hb'.mono hb.size)).block g hg.2)
           rw[HLW.o] at h
           rcases h with h|⟨b,off,h1,h2,h3⟩
           ·cases h
           ·exact .inr ⟨b,off,h1,h2,by rw[←TT (us:=us) (k:=k) HNV.o];exact h3.take _⟩
          have h:=oG Wn cW ((v0::vs)++us.take k) (by rw[e1];omega) Zy.nm w' (hr.to fun g hg=>aK hg.2 (aS hb.size hb'.size))
          rw[e1] at h
          exact h)
         clear hcl hcc hb
         obtain⟨tk,htk⟩:∃ s,s=Gv (v0::vs) ⟨#[]⟩ (us.take k):=⟨_,rfl⟩
         obtain⟨fi,hfi⟩:∃ v,v=gU ((v0::vs)++us.take k) Zy.nm:=⟨_,rfl⟩
         obtain⟨fb,hfb⟩:∃ v,v=fO ((v0::vs)++us.take k) Zy.nm:=⟨_,rfl⟩
         obtain⟨m,hm⟩:∃ m,m=nv+1+k:=⟨_,rfl⟩
         obtain⟨m1,hm1⟩:∃ m1,m1=nv+1+k+1:=⟨_,rfl⟩
         rw[←htk,←hfb] at Xm
         rw[←htk]
         rw[←hfi,←hfb,←hm] at HFD
         have s1:IntKind.i64.wrap ((nv:Int)+1+((k:Int)+1))=(m1:Int):=by rw[hm1];unfold IntKind.wrap;simp[IntKind.bits,IntKind.signed];omega
         have s2:IntKind.i64.wrap ((m1:Int)-1)=(m:Int):=by rw[hm1,hm];unfold IntKind.wrap;simp[IntKind.bits,IntKind.signed];omega
         have s3:m≤cW:=by omega
         have s4:(m:Int)≤(cW:Int):=by omega
         have s5:(0:Int)≤(m:Int):=by omega
         clear htk hfi hfb hm hm1
         have i1:k+1<nu+1:=by omega
         have i2:(k:Int)+1<(nu:Int)+1:=by omega
         have i3:(0:Int)≤(k:Int)+1:=by omega
         go_upto_region 16 with (fail)
         refine wp_region_held_drew (S:=fun w'=>Below wr.heap.size wr w') (by kernel_rfl) ((aG wr.heap.size wr).drew) (fun hHeld=>?_)
         refine aC (i:=0) (v:=?qa0) rfl (by kernel_rfl) aA (bD ⟨by rfl,?ajB⟩) ‹_› ?_
         case ajB=>(intro w1 hSw;(try dsimp only at hSw);go_simp;try with_reducible rfl)
         simp only[ah,aj,ai,Act.put,au,ay,az]
         refine aC (i:=1) (v:=?qa1) rfl (by kernel_rfl) aA (bD ⟨by rfl,?ajC⟩) ‹_› ?_
         case ajC=>(intro w1 hSw;(try dsimp only at hSw);go_simp;try with_reducible rfl)
         simp only[ah,aj,ai,Act.put,au,ay,az]
         refine aC (i:=2) (v:=?qa2) rfl (by kernel_rfl) aA (bD ⟨by rfl,?ajD⟩) ‹_› ?_
         case ajD=>(intro w1 hSw;(try dsimp only at hSw);go_simp;try with_reducible rfl)
         simp only[ah,aj,ai,Act.put,au,ay,az]
         refine aC (i:=3) (v:=?qa3) rfl (by kernel_rfl) aA (bD ⟨by rfl,?ajE⟩) ‹_› ?_
         case ajE=>(intro w1 hSw;(try dsimp only at hSw);go_simp;try with_reducible rfl)
         simp only[ah,aj,ai,Act.put,au,ay,az]
         refine aC (i:=4) (v:=?qa4) rfl (by kernel_rfl) aA (bD ⟨by rfl,?ajF⟩) ‹_› ?_
         case ajF=>(intro w1 hSw;(try dsimp only at hSw);go_simp;try with_reducible rfl)
         simp only[ah,aj,ai,Act.put,au,ay,az]
         refine aC (i:=5) (v:=?qa5) rfl (by kernel_rfl) aA (bD ⟨by rfl,?ajG⟩) ‹_› ?_
         case ajG=>(intro w1 hSw;(try dsimp only at hSw);go_simp;try with_reducible rfl)
         simp only[ah,aj,ai,Act.put,au,ay,az]
         refine aC (i:=6) (v:=.slice Wn m cW) rfl (by kernel_rfl) aA (bD ⟨by rfl,fun _ _=>by go_simp⟩) ‹_› ?_
         simp only[ah,aj,ai,Act.put,au,ay,az]
         refine aC (i:=7) (v:=?qa7) rfl (by kernel_rfl) aA (bD ⟨by rfl,?ajH⟩) ‹_› ?_
         case ajH=>(intro w1 hSw;(try dsimp only at hSw);go_simp;try with_reducible rfl)
         simp only[ah,aj,ai,Act.put,au,ay,az]
         refine aC (i:=8) (v:=?qa8) rfl (by kernel_rfl) aA (bD ⟨by rfl,?ajI⟩) ‹_› ?_
         case ajI=>(intro w1 hSw;(try dsimp only at hSw);go_simp;try with_reducible rfl)
         simp only[ah,aj,ai,Act.put,au,ay,az]
         refine aC (i:=9) (v:=?qa9) rfl (by kernel_rfl) aA (bD ⟨by rfl,?ajJ⟩) ‹_› ?_
         case ajJ=>(intro w1 hSw;(try dsimp only at hSw);go_simp;try with_reducible rfl)
         simp only[ah,aj,ai,Act.put,au,ay,az]
         refine aC (i:=10) (v:=?apM) rfl (by kernel_rfl) aA (bD ⟨by rfl,?afu⟩) ‹_› ?_
         case afu=>(intro w1 hSw;(try dsimp only at hSw);go_simp;try with_reducible rfl)
         simp only[ah,aj,ai,Act.put,au,ay,az]
         refine aC (i:=11) (v:=.string Zy.nm) rfl (by kernel_rfl) aA (bD ⟨by rfl,fun w1' hSw=>by (have cx:=HCK.o w1' hSw;go_simp)⟩) ‹_› ?_
         simp only[ah,aj,ai,Act.put,au,ay,az]
         refine wpAnyH_ready (rs:=[12]) (by kernel_rfl) (by simp) ?_
         refine AllReadyH.cons rfl (fun K hK=>?_) AllReadyH.nil
         simp only[ah,aj,ai]
         go_simp
         refine (HFD.o wr.drew (aG wr.heap.size wr).drew).mono ?_
         rintro e QG ⟨rfl,hb4⟩
         have acD:Hid (Below wr.heap.size wr QG):=ae ((aG wr.heap.size wr).drew.trans hb4)
         go_wp2_with fail
         refine hK.o _ _ acD.o (fun hHeld=>?_)
         clear hK K hb4
         refine aC (i:=13) (v:=.tuple #[.int .i64 fi,.bool fb]) rfl (by kernel_rfl) aA (bD ⟨by rfl,fun _ _=>by go_simp⟩) ‹_› ?_
         simp only[ah,aj,ai,Act.put,au,ay,az]
         refine aC (i:=14) (v:=.int .i64 fi) rfl (by kernel_rfl) aA (bD ⟨by rfl,fun _ _=>by go_simp⟩) ‹_› ?_
         simp only[ah,aj,ai,Act.put,au,ay,az]
         refine aC (i:=15) (v:=.bool fb) rfl (by kernel_rfl) aA (bD ⟨by rfl,fun _ _=>by go_simp⟩) ‹_› ?_
         simp only[ah,aj,ai,Act.put,au,ay,az]
         refine aC (i:=16) (v:=.int .i64 fi) rfl (by kernel_rfl) aA (bD ⟨by rfl,fun _ _=>by go_simp⟩) ‹_› ?_
         simp only[ah,aj,ai,Act.put,au,ay,az]
         refine aC (i:=17) (v:=.bool fb) rfl (by kernel_rfl) aA (bD ⟨by rfl,fun _ _=>by go_simp⟩) ‹_› ?_
         simp only[ah,aj,ai,Act.put,au,ay,az]
         refine wpAnyH_done (by kernel_rfl) ?_ _
         have TZ:Hid (Below w10.heap.size w10 QG):=ae (TY.o.trans (acD.o.mono TY.o.size))
         have cx:=HCK.o QG acD.o
         clear s1 s2 s3 s4 s5 HFD HCK
         cases fb
         ·go_wp2_with fail
          go_roundw
          case rel=>exact⟨k+1,by omega,by go_num,by rw[Xm.o,if_neg (fun h=>by cases h.1)],TZ.o⟩
          case measure=>simp[intOf];omega
         ·obtain⟨tn,htn⟩:∃ n,n=tk.size:=⟨_,rfl⟩
          by_cases h0:tk.size=0
          ·have h1:((tk.size:Int)==0)=true:=by rw[h0];rfl
           go_wp2_with fail
           go_roundw
           case rel=>exact⟨k+1,by omega,by go_num,by rw[Xm.o,if_pos ⟨rfl,h0⟩],TZ.o⟩
           case measure=>simp[intOf];omega
          ·have h1:((tk.size:Int)==0)=false:=beq_eq_false_iff_ne.2 (fun h=>h0 (by omega))
           go_wp2_with fail
           go_roundw
           case rel=>exact⟨k+1,by omega,by go_num,by rw[Xm.o,if_neg (fun h=>h0 h.2)],TZ.o⟩
           case measure=>simp[intOf];omega
        ·obtain rfl:k=nu:=by omega
         have TZ:Hid (Below w10.heap.size w10 wr):=ae hb
         have FO:Hid (Below w7.heap.size w7 wr):=ae (MZ.o.trans (hb.mono MZ.o.size))
         have WZ:Hid (Below wc.heap.size wc wr):=ae (FM.o.trans (FO.o.mono FM.o.size))
         have htu:us.take k=us:=bJ (Nat.le_of_eq HNU.o)
         have apN:=ZC
         have HNE:Hid (∀ c∈us,c.nm.size≠0):=ae (fun c hc=>(nZ (nY _ _ ZE.o c (bG _ hc)).1).1)
         have HJS:=ae (MM us (v0::vs) HNE.o)
         have HRE:Hid (RJ=if v0.k=u0.k then wB (v0::vs) us else ([],22,v0.nm)):=ae (by rw[HRJ.o];exact TK ZE.o)
         rw[htu]
         obtain⟨tk,htk⟩:∃ s,s=Gv (v0::vs) ⟨#[]⟩ us:=⟨_,rfl⟩
         rw[←htk] at HJS ⊢
         clear htk htu hb
         have xq:Hid (∀ w',Below wr.heap.size wr w'→w'.cell? ⟨bA,oA,none⟩=some (.string v0.nm)∧w'.cell? ⟨bA,oA+1,none⟩=some (.int .i64 v0.k)):=ae (fun w' hb=>Qd.o w' (FO.o.trans (hb.mono FO.o.size)))
         have HYR:Hid (∀ w',Below wr.heap.size wr w'→w'.cell? ⟨bB,oB,none⟩=some (.string u0.nm)∧w'.cell? ⟨bB,oB+1,none⟩=some (.int .i64 u0.k)):=ae (fun w' hb=>HCY.o w' (FO.o.trans (hb.mono FO.o.size)))
         obtain⟨ki,hki⟩:∃ z:Int,z=((k+1:Nat):Int):=⟨_,rfl⟩
         rw[←hki]
         have h1k:¬(ki<(k:Int)+1):=by omega
         have h2k:decide (ki<(k:Int)+1)=false:=decide_eq_false h1k
         clear hki
         go_upto_block 2 with (fail)
         go_cut [135] from 135 to 184 (fun r wx=>Below wr.heap.size wr wx)
         case first =>
          by_cases Bo:yJ=12
          ·have hyb:(yJ==12)=true:=by rw[Bo];rfl
           clear HJ HJS HRE
           go_wp2_with fail
           refine (oh wr (HE.o.low WZ.o)).mono ?_
           rintro e w12 ⟨rfl,W9⟩
           have acE:=ae (WZ.o.trans (W9.mono WZ.o.size))
           clear W9
           go_wp2_with fail
           go_ret
           exact⟨rfl,acE.o⟩
          ·have hyb:(yJ==12)=false:=beq_eq_false_iff_ne.2 Bo
           by_cases hkk:v0.k=u0.k
           ·have hk1:(v0.k != u0.k)=false:=by simp[hkk]
            have Na:=HRE.o
            rw[if_pos hkk] at Na
            go_upto_region 21 with (fail)
            refine wp_region_held_drew (S:=fun w'=>Below wr.heap.size wr w') (by kernel_rfl) ((aG wr.heap.size wr).drew) (fun hHeld=>?_)
            refine aC (i:=0) (v:=.slice (some ⟨bA,oA,none⟩) (nv+1) cA) rfl (by kernel_rfl) aA (bD ⟨by rfl,fun _ _=>by go_simp⟩) ‹_› ?_
            simp only[ah,ai,Act.put,au,ay,az]
            refine aC (i:=1) (v:=.pointer (some ⟨bA,oA,none⟩)) rfl (by kernel_rfl) aA (bD ⟨by rfl,fun _ _=>by go_simp⟩) ‹_› ?_
            simp only[ah,aj,ai,Act.put,au,ay,az]
            refine aC (i:=2) (v:=.pointer (some ⟨bA,oA+1,none⟩)) rfl (by kernel_rfl) aA (bD ⟨by rfl,fun _ _=>by go_simp⟩) ‹_› ?_
            simp only[ah,aj,ai,Act.put,au,ay,az]
            refine aC (i:=3) (v:=.int .i64 v0.k) rfl (by kernel_rfl) aA (bD ⟨by rfl,fun w1' hSw=>by (have cx:=(xq.o w1' hSw).2;go_simp)⟩) ‹_› ?_
            simp only[ah,aj,ai,Act.put,au,ay,az]
            refine aC (i:=4) (v:=.slice (some ⟨bB,oB,none⟩) (k+1) cB) rfl (by kernel_rfl) aA (bD ⟨by rfl,fun _ _=>by go_simp⟩) ‹_› ?_
            simp only[ah,aj,ai,Act.put,au,ay,az]
            refine aC (i:=5) (v:=.pointer (some ⟨bB,oB,none⟩)) rfl (by kernel_rfl) aA (bD ⟨by rfl,fun _ _=>by go_simp⟩) ‹_› ?_
            simp only[ah,aj,ai,Act.put,au,ay,az]
            refine aC (i:=6) (v:=.pointer (some ⟨bB,oB+1,none⟩)) rfl (by kernel_rfl) aA (bD ⟨by rfl,fun _ _=>by go_simp⟩) ‹_› ?_
            simp only[ah,aj,ai,Act.put,au,ay,az]
            refine aC (i:=7) (v:=.int .i64 u0.k) rfl (by kernel_rfl) aA (bD ⟨by rfl,fun w1' hSw=>by (have cx:=(HYR.o w1' hSw).2;go_simp)⟩) ‹_› ?_
            simp only[ah,aj,ai,Act.put,au,ay,az]
            refine aC (i:=8) (v:=.bool false) rfl (by kernel_rfl) aA (bD ⟨by rfl,fun _ _=>by go_simp⟩) ‹_› ?_
            simp only[ah,aj,ai,Act.put,au,ay,az]
            refine aC (i:=9) (v:=.bool false) rfl (by kernel_rfl) aA (bD ⟨by rfl,fun _ _=>by go_simp⟩) ‹_› ?_
            simp only[ah,aj,ai,Act.put,au,ay,az]
            refine wpAnyH_done (by kernel_rfl) ?_ _
            by_cases htz:tk.size=0
            ·have htd:decide ((0:Int)<(tk.size:Int))=false:=decide_eq_false (by omega)
             have htn:¬((0:Int)<(tk.size:Int)):=by omega
             rw[HJS.o.1 htz,←HLW.o] at Na
             by_cases hl:6<nv+1+k
             ·have hR:=ae (PY HJ.o Bo (by rw[Na,FI (by rw[kC.o];exact hl)];show ((23:Int)≠0);decide))
              rw[Na,FI (by rw[kC.o];exact hl)] at hR
              have JL:yJ=23:=hR.o.1
              have apP:(yJ != 23)=false:=by rw[JL];rfl
              have hl1:decide ((6:Int)<((nv+1+k:Nat):Int))=true:=decide_eq_true (by omega)
              have hl2:(6:Int)<(nv:Int)+1+(k:Int):=by omega
              clear hR Na JL
              go_wp2_with fail
              go_meet
              exact (aG _ _).drew
             ·have hcy:=MW (l:=LW) (by rw[kC.o];omega) (by rw[kC.o];exact hl)
              have hR:=aac HJ.o Bo (by rw[Na,hcy])
              rw[Na,hcy] at hR
              obtain⟨JL,hnn,hcc,hcr⟩:=hR
              have TV:nJ=LW.length:=hnn
              have HKC:=ae (rG Jn Wn cJ cW LW (by rw[kC.o];omega) wr.drew ((hcr.kept fun g hg=>((FN.o.trans (TZ.o.mono FN.o.size)).drew).block g hg.2).to fun g hg=>aK hg.2 (FN.o.trans (TZ.o.mono FN.o.size)).drew.size) ((HRW.o.kept fun g hg=>(TZ.o.drew).block g hg.2).to fun g hg=>aK hg.2 TZ.o.drew.size))
              rw[←TV] at HKC
              rw[kC.o] at TV
              have hWL:Hid (LW.length=nv+1+k):=kC
              have ajL:Hid (Calls Tryz.prog 12 #[.slice Jn nJ cJ,.slice Wn (nv+1+k) cW] wr.drew fun e w'=>e=.returned (.bool true)∧Below wr.drew.heap.size wr.drew w'):=ae (by have h:=HKC.o;rw[TV] at h ⊢;exact h)
              have hl1:decide ((6:Int)<((nv+1+k:Nat):Int))=false:=decide_eq_false (by omega)
              have hl2:¬(6:Int)<(nv:Int)+1+(k:Int):=by omega
              subst JL
              clear hcr hnn hcc HKC Na HJ Bo TV hcy hWL
              go_wp2_with fail
              refine (ajL.o).mono ?_
              rintro e w12 ⟨rfl,W9⟩
              have acE:Hid (Below wr.heap.size wr w12):=ae ((aG _ _).drew.trans W9)
              clear W9
              go_wp2_with fail
              go_meet
              exact acE.o
            ·have htd:decide ((0:Int)<(tk.size:Int))=true:=decide_eq_true (by omega)
             have htn:(0:Int)<(tk.size:Int):=by omega
             rw[HJS.o.2 htz] at Na
             have hR:=ae (PY HJ.o Bo (by rw[Na];show ((21:Int)≠0);decide))
             rw[Na] at hR
             have JL:yJ=21:=hR.o.1
             have hmm:mJ=tk:=hR.o.2
             have apR:(yJ != 21)=false:=by rw[JL];rfl
             subst hmm
             clear hR Na JL
             go_wp2_with fail
             go_meet
             exact (aG _ _).drew
           ·have hk1:(v0.k != u0.k)=true:=by simpa using hkk
            have Na:=HRE.o
            rw[if_neg hkk] at Na
            have hR:=ae (PY HJ.o Bo (by rw[Na];show ((22:Int)≠0);decide))
            rw[Na] at hR
            have JL:yJ=22:=hR.o.1
            have hmm:mJ=v0.nm:=hR.o.2
            have apS:(yJ != 22)=false:=by rw[JL];rfl
            subst hmm
            clear hR Na JL
            go_upto_region 21 with (fail)
            refine wp_region_held_drew (S:=fun w'=>Below wr.heap.size wr w') (by kernel_rfl) ((aG wr.heap.size wr).drew) (fun hHeld=>?_)
            refine aC (i:=0) (v:=.slice (some ⟨bA,oA,none⟩) (nv+1) cA) rfl (by kernel_rfl) aA (bD ⟨by rfl,fun _ _=>by go_simp⟩) ‹_› ?_
            simp only[ah,ai,Act.put,au,ay,az]
            refine aC (i:=1) (v:=.pointer (some ⟨bA,oA,none⟩)) rfl (by kernel_rfl) aA (bD ⟨by rfl,fun _ _=>by go_simp⟩) ‹_› ?_
            simp only[ah,aj,ai,Act.put,au,ay,az]
            refine aC (i:=2) (v:=.pointer (some ⟨bA,oA+1,none⟩)) rfl (by kernel_rfl) aA (bD ⟨by rfl,fun _ _=>by go_simp⟩) ‹_› ?_
            simp only[ah,aj,ai,Act.put,au,ay,az]
            refine aC (i:=3) (v:=.int .i64 v0.k) rfl (by kernel_rfl) aA (bD ⟨by rfl,fun w1' hSw=>by (have cx:=(xq.o w1' hSw).2;go_simp)⟩) ‹_› ?_
            simp only[ah,aj,ai,Act.put,au,ay,az]
            refine aC (i:=4) (v:=.slice (some ⟨bB,oB,none⟩) (k+1) cB) rfl (by kernel_rfl) aA (bD ⟨by rfl,fun _ _=>by go_simp⟩) ‹_› ?_
            simp only[ah,aj,ai,Act.put,au,ay,az]
            refine aC (i:=5) (v:=.pointer (some ⟨bB,oB,none⟩)) rfl (by kernel_rfl) aA (bD ⟨by rfl,fun _ _=>by go_simp⟩) ‹_› ?_
            simp only[ah,aj,ai,Act.put,au,ay,az]
            refine aC (i:=6) (v:=.pointer (some ⟨bB,oB+1,none⟩)) rfl (by kernel_rfl) aA (bD ⟨by rfl,fun _ _=>by go_simp⟩) ‹_› ?_
            simp only[ah,aj,ai,Act.put,au,ay,az]
            refine aC (i:=7) (v:=.int .i64 u0.k) rfl (by kernel_rfl) aA (bD ⟨by rfl,fun w1' hSw=>by (have cx:=(HYR.o w1' hSw).2;go_simp)⟩) ‹_› ?_
            simp only[ah,aj,ai,Act.put,au,ay,az]
            refine aC (i:=8) (v:=.bool true) rfl (by kernel_rfl) aA (bD ⟨by rfl,fun _ _=>by go_simp⟩) ‹_› ?_
            simp only[ah,aj,ai,Act.put,au,ay,az]
            refine aC (i:=9) (v:=.bool true) rfl (by kernel_rfl) aA (bD ⟨by rfl,fun _ _=>by go_simp⟩) ‹_› ?_
            simp only[ah,aj,ai,Act.put,au,ay,az]
            refine wpAnyH_done (by kernel_rfl) ?_ _
            have cx:=(xq.o wr.drew (aG _ _).drew).1
            go_wp2_with fail
            go_meet
            exact (aG _ _).drew
         case rest =>
          have HBC:Hid (Below wr.heap.size wr wc):=ae hcut
          have TW:Hid (Below w7.heap.size w7 wc):=ae (FO.o.trans (hcut.mono FO.o.size))
          have Zz:=ae (Dk.o.trans (TW.o.mono Dk.o.size))
          have afx:=ae (WZ.o.trans (hcut.mono WZ.o.size))
          clear hcut HJ HJS HRE HRJ xq HYR HCY oN ZE HUB acC HFQ HOJ HOQ HRG HLW kC HRW h1k h2k
          have ajM:w2.heap.size<wc.heap.size:=aK hsX Zz.o.size
          have HXC:=ae ((Zz.o.block _ hsX).trans nO.o)
          obtain⟨RG,hRG⟩:∃ R,R=jB (v0::vs) [MO] [] [v0.nm]:=⟨_,rfl⟩
          have apT:=ae hRG
          have ajN:Hid (∀ g,gK (pX g) (Gw p v0.nm)=RG):=ae (fun g=>by rw[Fe g 0,WE acB.o,HVA.o,hRG])
          have HCV:Hid (∀ w',Below wc.heap.size wc w'→w'.cell? ⟨bA,oA,none⟩=some (.string v0.nm)∧w'.cell? ⟨bA,oA+1,none⟩=some (.int .i64 v0.k)):=ae (fun w' hb=>Qd.o w' (TW.o.trans (hb.mono TW.o.size)))
          have HFZ:Hid (∀ w',Below wc.heap.size wc w'→Calls Tryz.prog 13 #[.slice (some ⟨bA,oA,none⟩) (nv+1) cA,.string ⟨#[122,122]⟩] w' fun e w2=>e=.returned (.tuple #[.int .i64 (gU (v0::vs) IA),.bool (fO (v0::vs) IA)])∧Below w'.heap.size w' w2):=ae (fun w' hb'=>by
           have e1:(v0::vs).length=nv+1:=by rw[bf,HNV.o]
           have h:=oG (some ⟨bA,oA,none⟩) cA (v0::vs) (by rw[e1];omega) IA w' (.inr ⟨bA,oA,rfl,aK hsA (aS TW.o.size hb'.size),fun i c hc=>by
            have h2:=HAT.o i c hc
            have hb2:=TW.o.trans (hb'.mono TW.o.size)
            exact⟨(hb2.cell (p:=⟨bA,oA+i*2,none⟩) hsA).trans h2.1,(hb2.cell (p:=⟨bA,oA+i*2+1,none⟩) hsA).trans h2.2⟩⟩)
           rw[e1] at h
           exact h)
          obtain⟨fz,hfz⟩:∃ v,v=gU (v0::vs) IA:=⟨_,rfl⟩
          obtain⟨hz,hhz⟩:∃ v,v=fO (v0::vs) IA:=⟨_,rfl⟩
          have HHZ:Hid (hz=false→RG=([v0,⟨IA,1⟩],0,⟨#[]⟩)):=ae (fun h=>by rw[hRG];exact PQ (by rw[←hhz];exact h))
          rw[←hfz,←hhz] at HFZ
          clear hfz hhz hRG
          go_upto_region 32 with (fail)
          refine dP.xB (L:=12) (F:=7) (LL:=#[true,true,true,true,true,true,true,true,true,true,true,true,false,false,false,false,false,false,false]) (R:=dP.FH [.is (.slice (some ⟨bA,oA,none⟩) (nv+1) cA),.is (.pointer (some ⟨bA,oA,none⟩)),.is (.pointer (some ⟨bA,oA,none⟩)),.is (.string v0.nm),.blk wc.heap.size 9 1 #[.string v0.nm],.is (.agg #[.string ⟨#[122,122]⟩,.string ⟨#[99,111,117,110,116]⟩,.string ⟨#[]⟩]),.blk wc.heap.size 46 1 #[.string ⟨#[122,122]⟩,.string ⟨#[99,111,117,110,116]⟩,.string ⟨#[]⟩],.is (.agg #[.int .i64 xk,.string JH,.slice ea x1 ec,.slice ca x2 cc,.slice la x3 lc,.slice ra x4 rc,.slice ga x5 gc,.slice ka x6 kc]),.blk wc.heap.size 27 1 #[.int .i64 xk,.string JH,.slice ea x1 ec,.slice ca x2 cc,.slice la x3 lc,.slice ra x4 rc,.slice ga x5 gc,.slice ka x6 kc],dP.gvF v0.nm #[.int .i64 xk,.string JH,.slice ea x1 ec,.slice ca x2 cc,.slice la x3 lc,.slice ra x4 rc,.slice ga x5 gc,.slice ka x6 kc],dP.dfF,dP.jrF RG wc.heap.size]) (ds:=[some 186,some 187,some 188,some 189,some 190,some 191,some 192,some 193,some 194,some 195,some 196,some 197,some 185,some 198,some 199,some 200,some 21,some 22,some 23]) (dl:=[some 186,some 187,some 188,some 189,some 190,some 191,some 192,some 193,some 194,some 195,some 196,some 197]) (MS:=[0,1,3,7,15,0,32,0,128,511,0,2047,4095,8191,8191,8191,16383,98303,262143]) mixed (by kernel_rfl) (by kernel_rfl) (by kernel_rfl) (by kernel_rfl) rfl (by kernel_rfl) (by kernel_rfl) rfl (by kernel_rfl) (by kernel_rfl) (dP.Cf _)
           (fun a0=>a0.tmps.getD 5 undef=.pointer (some ⟨w2.heap.size,0,none⟩)∧a0.tmps.getD 7 undef=.slice (some ⟨bA,oA,none⟩) (nv+1) cA) ⟨rfl,rfl⟩ ?_ ?_
          ·intro hds Q' a0 ⟨og5,og7⟩
           refine dP.Each.cons (fun _=>dP.gY.free rfl (fun a1 w1 hB hL1 hk K hK=>?_)) ?_
           ·have s7:a1.tmps.getD 7 undef=.slice (some ⟨bA,oA,none⟩) (nv+1) cA:=hL1.old rfl og7
            clear hk hL1
            go_simp
            exact hK _ _ (aG _ _) rfl
           refine dP.Each.cons (fun _=>dP.gY.free rfl (fun a1 w1 hB hL1 hk K hK=>?_)) ?_
           ·have apU:a1.tmps.getD 186 undef=.slice (some ⟨bA,oA,none⟩) (nv+1) cA:=(hk 0 rfl).is rfl (fun _ h=>h)
            clear hk hL1
            go_simp
            exact hK _ _ (aG _ _) rfl
           refine dP.Each.cons (fun _=>dP.gY.free rfl (fun a1 w1 hB hL1 hk K hK=>?_)) ?_
           ·have apV:a1.tmps.getD 187 undef=.pointer (some ⟨bA,oA,none⟩):=(hk 1 rfl).is rfl (fun _ h=>h)
            clear hk hL1
            go_simp
            exact hK _ _ (aG _ _) rfl
           refine dP.Each.cons (fun _=>dP.gY.free rfl (fun a1 w1 hB hL1 hk K hK=>?_)) ?_
           ·have apW:a1.tmps.getD 188 undef=.pointer (some ⟨bA,oA,none⟩):=(hk 2 rfl).is rfl (fun _ h=>h)
            have cx:=(HCV.o w1 hB).1
            clear hk hL1
            go_simp
            exact hK _ _ (aG _ _) rfl
           refine dP.Each.cons (fun _=>dP.gY.free rfl (fun a1 w1 hB hL1 hk K hK=>?_)) ?_
           ·have ajQ:a1.tmps.getD 189 undef=.string v0.nm:=(hk 3 rfl).is rfl (fun _ h=>h)
            have afy:=ajQ
            rw[bQ] at afy
            clear hk hL1
            go_simp
            exact hK _ _ ((aG _ _).alloc (aF _) _) ⟨w1.heap.size,rfl,hB.size,aH w1 _⟩
           refine dP.Each.cons (fun _=>dP.gY.free rfl (fun a1 w1 hB hL1 hk K hK=>?_)) ?_
           ·clear hk hL1
            go_simp
            exact hK _ _ (aG _ _) rfl
           refine dP.Each.cons (fun _=>dP.gY.free rfl (fun a1 w1 hB hL1 hk K hK=>?_)) ?_
           ·have ajR:a1.tmps.getD 191 undef=.agg #[.string ⟨#[122,122]⟩,.string ⟨#[99,111,117,110,116]⟩,.string ⟨#[]⟩]:=(hk 5 rfl).is rfl (fun _ h=>h)
            have afz:=ajR
            rw[bQ] at afz
            clear hk hL1
            go_simp
            exact hK _ _ ((aG _ _).alloc (aF _) _) ⟨w1.heap.size,rfl,hB.size,aH w1 _⟩
           refine dP.Each.cons (fun _=>dP.gY.free rfl (fun a1 w1 hB hL1 hk K hK=>?_)) ?_
           ·have s5:a1.tmps.getD 5 undef=.pointer (some ⟨w2.heap.size,0,none⟩):=hL1.old rfl og5
            obtain⟨y0,y1,y2,y3,y4,y5,y6,y7,_,_,_,_,_,_,_,_⟩:=dO ((hB.block w2.heap.size ajM).trans HXC.o)
            clear hk hL1
            go_simp
            exact hK _ _ (aG _ _) rfl
           refine dP.Each.cons (fun _=>dP.gY.free rfl (fun a1 w1 hB hL1 hk K hK=>?_)) ?_
           ·have ajS:a1.tmps.getD 193 undef=.agg #[.int .i64 xk,.string JH,.slice ea x1 ec,.slice ca x2 cc,.slice la x3 lc,.slice ra x4 rc,.slice ga x5 gc,.slice ka x6 kc]:=(hk 7 rfl).is rfl (fun _ h=>h)
            have afA:=ajS
            rw[bQ] at afA
            clear hk hL1
            go_simp
            exact hK _ _ ((aG _ _).alloc (aF _) _) ⟨w1.heap.size,rfl,hB.size,aH w1 _⟩
           refine dP.Each.cons (fun _=>dP.gY.free rfl (fun a1 w1 hB hL1 hk K hK=>?_)) ?_
           ·obtain⟨apX,ajT,b1,rfl,hg1,hb1⟩:=(hk 4 rfl).slot rfl
            obtain⟨apY,ajU,b2,rfl,hg2,hb2⟩:=(hk 6 rfl).slot rfl
            obtain⟨v194,ajV,b3,rfl,hg3,hb3⟩:=(hk 8 rfl).slot rfl
            have afB:=ajT
            rw[bQ] at afB
            have afC:=ajU
            rw[bQ] at afC
            have afD:=ajV
            rw[bQ] at afD
            clear hk hL1
            go_simp
            exact hK _ _ (aG _ _) ⟨b1,b2,b3,rfl,hb1,hb2,hb3⟩
           refine dP.Each.cons (fun _=>dP.gY.free rfl (fun a1 w1 hB hL1 hk K hK=>?_)) ?_
           ·clear hk hL1
            go_simp
            refine (sK w1).mono ?_
            rintro e w2' ⟨⟨rfl,hD⟩,hb⟩
            exact hK _ _ hb ⟨w1.heap.size,rfl,hD.mono fun k hk=>hk.2⟩
           refine dP.Each.cons (fun _=>dP.gY.free rfl (fun a1 w1 hB hL1 hk K hK=>?_)) ?_
           ·obtain⟨apZ,ap0,b1,b2,b3,rfl,h1,h2,h3⟩:=(hk 9 rfl).slot rfl
            obtain⟨v196,ap1,g,rfl,hD⟩:=(hk 10 rfl).slot rfl
            clear hk hL1
            go_simp
            refine (HOG.o w1 _ b1 b2 b3 g _ _ _ HFP.o Qg.o (Zz.o.trans (hB.mono Zz.o.size)) h1 h2 h3 hD).mono ?_
            rintro e w2' ⟨hO,hb⟩
            obtain⟨A,n,c,y,m,rfl,hJ⟩:=MR (B:=wc.heap.size) hO (ajN.o g) hB.size
            exact hK _ _ hb ⟨A,n,c,y,m,rfl,hJ⟩
           refine dP.Each.cons (fun h=>absurd h (by decide)) ?_
           refine dP.Each.cons (fun h=>absurd h (by decide)) ?_
           refine dP.Each.cons (fun h=>absurd h (by decide)) ?_
           refine dP.Each.cons (fun h=>absurd h (by decide)) ?_
           refine dP.Each.cons (fun h=>absurd h (by decide)) ?_
           refine dP.Each.cons (fun h=>absurd h (by decide)) ?_
           refine dP.Each.cons (fun h=>absurd h (by decide)) ?_
           exact trivial
          ·rintro a' wd hB hL1 hk
           obtain⟨ap2,afE,Dn,nD,cD,yD,mD,rfl,hJ⟩:=(hk 11 (by decide)).slot rfl
           have HJD:=ae hJ
           have acF:Hid (Below wc.heap.size wc wd):=ae hB
           obtain⟨u,hu,hui⟩:=hL1.aad
           have aae:=(hui 197).symm.trans afE
           clear hk hL1 hJ hB afE hui
           subst hu
           refine wpAny_of_held (S:=fun w=>Below wd.heap.size wd w) _ _ _ _ ?_
           have hHeld:Below wd.heap.size wd wd:=aG _ _
           simp only[dP.JG,Act.put,ah,aj,ai,au,ay,az]
           rw[aae]
           refine aC (i:=12) (v:=.tuple #[.slice Dn nD cD,.int .i64 yD,.string mD]) rfl (by kernel_rfl) aA (bD ⟨by rfl,fun _ _=>by go_simp⟩) ‹_› ?_
           simp only[ah,aj,ai,Act.put,au,ay,az]
           refine aC (i:=13) (v:=.slice Dn nD cD) rfl (by kernel_rfl) aA (bD ⟨by rfl,fun _ _=>by go_simp⟩) ‹_› ?_
           simp only[ah,aj,ai,Act.put,au,ay,az]
           refine aC (i:=14) (v:=.int .i64 yD) rfl (by kernel_rfl) aA (bD ⟨by rfl,fun _ _=>by go_simp⟩) ‹_› ?_
           simp only[ah,aj,ai,Act.put,au,ay,az]
           refine aC (i:=15) (v:=.string mD) rfl (by kernel_rfl) aA (bD ⟨by rfl,fun _ _=>by go_simp⟩) ‹_› ?_
           simp only[ah,aj,ai,Act.put,au,ay,az]
           refine aC (i:=16) (v:=.slice Dn nD cD) rfl (by kernel_rfl) aA (bD ⟨by rfl,fun _ _=>by go_simp⟩) ‹_› ?_
           simp only[ah,aj,ai,Act.put,au,ay,az]
           refine aC (i:=17) (v:=.int .i64 yD) rfl (by kernel_rfl) aA (bD ⟨by rfl,fun _ _=>by go_simp⟩) ‹_› ?_
           simp only[ah,aj,ai,Act.put,au,ay,az]
           refine aC (i:=18) (v:=.string mD) rfl (by kernel_rfl) aA (bD ⟨by rfl,fun _ _=>by go_simp⟩) ‹_› ?_
           simp only[ah,aj,ai,Act.put,au,ay,az]
           refine wpAnyH_done (by kernel_rfl) ?_ _
           clear aae
           have HFW:=ae (HFZ.o wd acF.o)
           go_wp2_with fail
           refine (HFW.o).mono ?_
           rintro e we ⟨rfl,hbe⟩
           have HBE:Hid (Below wc.heap.size wc we):=ae (acF.o.trans (hbe.mono acF.o.size))
           have afF:Hid (Below wd.heap.size wd we):=ae hbe
           have Nb:=ae (afx.o.trans (HBE.o.mono afx.o.size))
           clear hbe HFZ HFW
           go_upto_region 34 with (fail)
           cases hz
           ·by_cases Bo:yD=12
            ·have hyb:(yD==12)=true:=by rw[Bo];rfl
             subst Bo
             go_wp2_with fail
             refine (oh we (HE.o.low Nb.o)).mono ?_
             rintro e wf ⟨rfl,hbf⟩
             have HBF:=ae (Nb.o.trans (hbf.mono Nb.o.size))
             clear hbf
             go_wp2_with fail
             go_ret
             exact⟨rfl,HBF.o⟩
            ·have hyb:(yD==12)=false:=beq_eq_false_iff_ne.2 Bo
             have hR:=HHZ.o rfl
             have hok:=aac HJD.o Bo (by rw[hR])
             rw[hR] at hok
             obtain⟨JL,hnn,hcc,hcr⟩:=hok
             have TV:nD=2:=hnn
             obtain⟨wg,ewg⟩:∃ wg,wg=we.alloc (.cells #[.string v0.nm,.int .i64 v0.k,.string ⟨#[122,122]⟩,.int .i64 1] 42):=⟨_,rfl⟩
             have hbg:Below we.heap.size we wg:=by rw[ewg];exact (aG _ _).alloc (aF _) _
             have hxg:wg.heap[we.heap.size]?=some (.cells #[.string v0.nm,.int .i64 v0.k,.string ⟨#[122,122]⟩,.int .i64 1] 42 (0,0)):=by rw[ewg];exact aH we _
             have HBG:=ae (Nb.o.trans (hbg.mono Nb.o.size))
             have acG:=afF.o.trans (hbg.mono afF.o.size)
             have HKC:Hid (Calls Tryz.prog 12 #[.slice Dn 2 cD,.slice (some ⟨we.heap.size,0,none⟩) 2 2] wg fun e w'=>e=.returned (.bool true)∧Below wg.heap.size wg w'):=ae (rG Dn (some ⟨we.heap.size,0,none⟩) cD 2 [v0,⟨IA,1⟩] (by show 2≤1000000;decide) wg ((hcr.kept fun g hg=>acG.block g hg.2).to fun g hg=>aK hg.2 acG.size) (Zv hxg))
             have HWG:=ae ewg
             have cx:=(HCV.o we HBE.o).1
             have cy:=(HCV.o we HBE.o).2
             subst JL
             subst TV
             clear ewg hbg hxg hcr hcc hnn hR HJD Bo acG
             go_wp2_with (fail)
             try rw[←HWG.o]
             refine (HKC.o).mono ?_
             rintro e wh ⟨rfl,hbh⟩
             have HBH:=ae (HBG.o.trans (hbh.mono HBG.o.size))
             clear hbh
             go_wp2_with fail
             refine (oh wh (HE.o.low HBH.o)).mono ?_
             rintro e wf ⟨rfl,hbf⟩
             have HBF:=ae (HBH.o.trans (hbf.mono HBH.o.size))
             clear hbf
             go_wp2_with fail
             go_ret
             exact⟨rfl,HBF.o⟩
           ·clear HHZ HJD
            go_wp2_with fail
            refine (oh we (HE.o.low Nb.o)).mono ?_
            rintro e wf ⟨rfl,hbf⟩
            have HBF:=ae (Nb.o.trans (hbf.mono Nb.o.size))
            clear hbf
            go_wp2_with fail
            go_ret
            exact⟨rfl,HBF.o⟩
     ·obtain⟨nv,hnv⟩:∃ nv,vs.length=nv:=⟨_,rfl⟩
      obtain⟨nu,hnu⟩:∃ nu,us.length=nu:=⟨_,rfl⟩
      have h5':nv=5:=by omega
      subst h5'
      rw[hnv,hnu]
      clear HFP HFQ acB acC HVA HUB ZC ZE HCA HCB
      have e1:((nu+1:Nat):Int)≠0:=by omega
      have e2:(((nu+1:Nat):Int)==0)=false:=by simpa using e1
      go_wp2_with fail
      refine (oh w7 (HE.o.low FM.o)).mono ?_
      rintro e w8 ⟨rfl,hb8⟩
      have uM:=ae (FM.o.trans (hb8.mono FM.o.size))
      clear hb8
      go_wp2_with fail
      go_ret
      exact⟨rfl,uM.o⟩
    ·have ap4:(yB != 0)=true:=by simpa using hyB
     clear HOA ZH hva hna hv5 hcA hrA hRA acA
     go_wp2_with fail
     refine (oh w7 (HE.o.low FM.o)).mono ?_
     rintro e w8 ⟨rfl,hb8⟩
     have uM:=ae (FM.o.trans (hb8.mono FM.o.size))
     clear hb8
     go_wp2_with fail
     go_ret
     exact⟨rfl,uM.o⟩
   ·have ap5:(yA != 0)=true:=by simpa using hyA
    clear HOA ZH
    go_wp2_with fail
    refine (oh w7 (HE.o.low FM.o)).mono ?_
    rintro e w8 ⟨rfl,hb8⟩
    have uM:=ae (FM.o.trans (hb8.mono FM.o.size))
    clear hb8
    go_wp2_with fail
    go_ret
    exact⟨rfl,uM.o⟩
end Go.Proofs.YtjhkihkiebnpaaaGreatDoor
