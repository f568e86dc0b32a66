/-
  The reference's reader of brackets: it ends with a refusal, or with some tree in new memory.
-/
import Derived.Test.YtjhkihkiebnpaaaGreatDoorMj0
import Derived.Test.YtjhkihkiebnpaaaGreatDoorMj7
import Derived.Test.YtjhkihkiebnpaaaGreatDoorMj2
set_option linter.unusedVariables false
set_option linter.unusedSimpArgs false
set_option maxRecDepth 100000
set_option maxHeartbeats 40000000
namespace Go.Proofs.YtjhkihkiebnpaaaGreatDoor
open Go.RowKit
theorem PI (s:ByteArray)(w:World):Calls Tryz.prog 39 #[.string s] w fun e w'=>MH s w e w'∧Below w.heap.size w w':=by
 obtain⟨w1,dZ⟩:∃ w1,w1=w.alloc (.cells #[.int .i64 0,.string ⟨#[]⟩,.int .i64 0,.slice none 0 0,.int .i64 0] 86):=⟨_,rfl⟩
 have hb1:Below w.heap.size w w1:=by rw[dZ];exact (aG _ _).alloc (aF _) _
 have hws:w1.heap.size=w.heap.size+1:=by rw[dZ];simp
 have hB:Hid (w1.heap[w.heap.size]?=some (.cells #[.int .i64 0,.string ⟨#[]⟩,.int .i64 0,.slice none 0 0,.int .i64 0] 86 (0,0))):=ae (by rw[dZ];exact aH w _)
 have HB1:=ae hb1
 have HW1:=ae dZ
 cases Ti:decide (600<(s.size:Int))
 ·have hs:s.size≤600:=by simp at Ti;omega
  have hl0:=ae (fun c w=>zC c w)
  have hd0:=ae (fun c w=>vK c w)
  have hf0:=ae (fun p hp w=>Vl s p hp hs w)
  have HO0:Hid ((w1.alloc (.cells #[.int .i64 0,.string ⟨#[]⟩,.int .i64 0,.slice none 0 0,.int .i64 0] 86)).ownsRow w1.heap.size 86 5 (.slice (some ⟨w1.heap.size,0,none⟩) 1 1) 1 (ed [(lK,none,0)])) :=
   ae ⟨rfl,.inr ⟨w1.heap.size,1,_,rfl,aF _,aH w1 _,aF _,by decide,rfl,rfl⟩⟩
  have HB0:Hid (Below w1.heap.size w1 (w1.alloc (.cells #[.int .i64 0,.string ⟨#[]⟩,.int .i64 0,.slice none 0 0,.int .i64 0] 86))):=ae ((aG _ _).alloc (aF _) _)
  obtain⟨i0,hi,hz0,hz1,hz2⟩:=info_parts Oz
  clear dZ hb1
  go_enter Tryz.func39,Tryz.ntmps39
  go_upto_region 1 with (fail)
  rw[←HW1.o]
  go_upto_region 4 with (fail)
  go_wp2_with fail
  go_loopw [5,6] (fun v i wr=>∃ (j m g cap:Nat)(ps:List TP),j≤s.size∧i=.int .i64 j∧v=.slice (some ⟨g,0,none⟩) m cap∧1≤m∧m≤13∧ps.length=m∧wr.ownsRow w1.heap.size 86 5 v m (ed ps) ∧
   Hid (∀ p∈ps,p.1.Open j∧p.1.kids.length≤p.2.2∧mQ wr (fun k=>w1.heap.size≤k∧k<wr.heap.size∧k≠g) p.2.1 p.1.kids)∧Below w1.heap.size w1 wr∧Hid (mM ps)∧Hid (rJ s j ps)) (fun _ i _=>s.size-(intOf i).toNat)
  case atStart=>exact⟨0,1,w1.heap.size,1,[(lK,none,0)],aX _,rfl,by rw[hws],aF _,by decide,rfl,by rw[←hws];exact HO0.o,ae (fun p hp=>by obtain rfl:p=(lK,none,0):=(by simpa using hp);exact⟨Eo 0,aF _,.nil _⟩),HB0.o,ae mM.one,ae (rJ.start hs)⟩
  case round =>
   obtain⟨j,m,g,cap,ps,hj,rfl,rfl,hm1,hm2,hpl,hown,hxk,hb,hdp,hex⟩:=hrel
   have HO:=ae hown
   have HB:=ae hb
   have lV:=ae hpl
   have hs1:=hb.size
   have hBw:Hid (wr.heap[w.heap.size]?=some (.cells #[.int .i64 0,.string ⟨#[]⟩,.int .i64 0,.slice none 0 0,.int .i64 0] 86 (0,0))):=ae ((hb.block _ (by omega)).trans hB.o)
   clear hown hb hpl
   by_cases hlt:j<s.size
   ·have hdj:decide (s.size≤j)=false:=by simp;omega
    obtain⟨cc,hcc⟩:∃ cc:Int,(s[j].toNat:Int)=cc:=⟨_,rfl⟩
    cases h32:(cc==32)
    ·cases h10:(cc==10)
     ·cases Oj:(cc==41)
      ·
       have HNC:Hid (NC s j hlt):=ae ⟨by rw[hcc];exact h32,by rw[hcc];exact h10,by rw[hcc];exact Oj⟩
       have hLj:Hid (∀ w,Calls Tryz.prog 78 #[.int .u8 cc] w fun e w'=>e=.returned (.bool (qG s[j]))∧w=w'):=ae (fun w=>by rw[←hcc];exact hl0.o _ w)
       have hDj:Hid (∀ w,Calls Tryz.prog 79 #[.int .u8 cc] w fun e w'=>e=.returned (.bool (CJ s[j]))∧w=w'):=ae (fun w=>by rw[←hcc];exact hd0.o _ w)
       have hbad:∀ (zZ:(cc==40)=false)(uJ:(cc==34)=false)(h45:(cc==45)=false)(hl:qG s[j]=false)(hd:CJ s[j]=false),True:=fun _ _ _ _ _=>trivial
       by_cases hok:(cc==40)=true∨(cc==34)=true∨(cc==45)=true∨qG s[j]=true∨CJ s[j]=true
       ·clear hbad
        go_upto_region 16 with (fail)
        go_cut [86] from 67 to 86 (fun r wx=>r=.bool false∧wx=wr)
        case first =>
         cases zZ:(cc==40)
         ·as_aux_lemma =>
          have ae6:(cc != 40)=true:=by simp[bne,zZ]
          cases uJ:(cc==34)
          ·have Ya:(cc != 34)=true:=by simp[bne,uJ]
           cases h45:(cc==45)
           ·have ae7:(cc != 45)=true:=by simp[bne,h45]
            cases hlb:qG s[j]
            ·rw[hlb] at hLj
             have L8:CJ s[j]=true:=by simpa [zZ,uJ,h45,hlb] using hok
             rw[L8] at hDj
             clear hok
             go_wp2_with fail
             refine (hLj.o _).mono ?_
             rintro e w' ⟨rfl,rfl⟩
             go_wp2_with fail
             refine (hDj.o _).mono ?_
             rintro e w' ⟨rfl,rfl⟩
             go_wp2_with fail
             go_meet
             exact⟨rfl,rfl⟩
            ·rw[hlb] at hLj
             clear hok
             go_wp2_with fail
             refine (hLj.o _).mono ?_
             rintro e w' ⟨rfl,rfl⟩
             go_wp2_with fail
             go_meet
             exact⟨rfl,rfl⟩
           ·have ae7:(cc != 45)=false:=by simp[bne,h45]
            clear hok
            go_wp2_with fail
            go_meet
            exact⟨rfl,rfl⟩
          ·have Ya:(cc != 34)=false:=by simp[bne,uJ]
           clear hok
           go_wp2_with fail
           go_meet
           exact⟨rfl,rfl⟩
         ·as_aux_lemma =>
          have ae6:(cc != 40)=false:=by simp[bne,zZ]
          clear hok
          go_wp2_with fail
          go_meet
          exact⟨rfl,rfl⟩
        case rest =>
         obtain⟨rfl,hwc⟩:=hcut
         obtain rfl:wr=wc:=hwc.symm
         clear hwc hok
         obtain⟨p0,hp0⟩:∃ p0,ps[0]?=some p0:=⟨_,aO (by rw[lV.o];omega)⟩
         have hz3:wr.cell? ⟨g,3,none⟩=some (.slice p0.2.1 p0.1.kids.length p0.2.2):=by simpa using (mG HO.o lV.o hp0).2.2.2.1
         have HT0:=ae (Wv lV.o hp0)
         clear hp0
         generalize p0.1.kids.length=n0 at *
         go_upto_region 18 with (fail)
         go_cut [98] from 89 to 98 (fun r wx=>r=.bool (zM (ps.map Prod.fst))∧wx=wr)
         case first =>
          cases hm0:((m:Int)-1==0)
          ·go_wp2_with fail
           go_meet
           exact⟨by rw[HT0.o];have h1:¬m=1:=(by have:=hm0;simp at this;omega);simp[h1],rfl⟩
          ·go_wp2_with fail
           go_meet
           exact⟨by rw[HT0.o];have h1:m=1:=(by have:=hm0;simp at this;omega);simp[h1],rfl⟩
         case rest =>
          obtain⟨rfl,hwc⟩:=hcut
          obtain rfl:wr=wc:=hwc.symm
          obtain⟨bt,hbt⟩:∃ bt,bt=zM (ps.map Prod.fst):=⟨_,rfl⟩
          rw[←hbt]
          have oN:=ae hbt
          clear hwc hz3 p0 hbt HT0
          cases bt
          ·cases zZ:(cc==40)
           ·as_aux_lemma =>
            have hlf:=ae (hf0.o j hlt wr)
            obtain⟨m1,MI⟩:∃ m1,m=m1+1:=⟨m-1,by omega⟩
            have e0:(m:Int)-1=(m1:Int):=by omega
            have l1:m1<m:=by omega
            obtain⟨pt,hpt⟩:∃ pt,ps[m1]?=some pt:=⟨_,aO (by rw[lV.o];exact l1)⟩
            have FT:=ae hpt
            have HM1:=ae MI
            have hcell:=(mG HO.o lV.o hpt).2.2.2.1
            have MJ:=(mG HO.o lV.o hpt).2.2.2.2.2
            have FQ:=ae (hxk.o pt (aN hpt))
            have Sj:g<wr.heap.size:=((HO.o).lt g rfl).2
            have abW:w1.heap.size≤g:=((HO.o).lt g rfl).1
            clear hpt MI
            obtain⟨⟨tk,ts,tn,tl,ta⟩,A0,c0⟩:=pt
            simp only[T.kids] at hcell FQ
            obtain⟨qs,hq1,hq2,hq3⟩:=DC (B:=wr.heap.size) (fun k hk=>hk.2.1) FQ.o.2.2
            have hkl:tl.length≤j:=FQ.o.1.2.2.2.1
            have HQ:=ae (bU hq1 (bU hq2 hq3))
            clear hq1 hq2 hq3
            generalize htn:tl.length=n0 at *
            go_upto_region 25 with (fail)
            go_wp2_with fail
            refine (hlf.o).mono ?_
            rintro e w4 ⟨⟨lk,ln,la,lx,i2,why,at_,rfl,hi2,hlx,hl4,hn1,hn2,hji,hw7⟩,hb4⟩
            have HB4:=ae hb4
            have HW7:=ae hw7
            clear hw7
            have hs4:=hb4.size
            have aiQ:Hid (w4.heap[w.heap.size]?=some (.cells #[.int .i64 0,.string ⟨#[]⟩,.int .i64 0,.slice none 0 0,.int .i64 0] 86 (0,0))):=ae ((hb4.block _ (by omega)).trans hBw.o)
            clear hb4
            cases hwy:(why != 0)
            ·obtain⟨wq,TC⟩:∃ wq,wq=w4.alloc (.cells #[.int .i64 lk,.string lx,.int .i64 ln,.slice none 0 0,.int .i64 la] 86):=⟨_,rfl⟩
             have hbq:Below w4.heap.size w4 wq:=by rw[TC];exact (aG _ _).alloc (aF _) _
             have jW:Hid (wq.heap[w4.heap.size]?=some (.cells #[.int .i64 lk,.string lx,.int .i64 ln,.slice none 0 0,.int .i64 la] 86 (0,0))):=ae (by rw[TC];exact aH w4 _)
             have hsq:wq.heap.size=w4.heap.size+1:=by rw[TC];simp
             have ZP:=ae TC
             have uI:Hid (Below wr.heap.size wr wq):=ae (HB4.o.trans (hbq.mono hs4))
             have hcq:wq.cell? ⟨g,m1*5+3,none⟩=some (.slice A0 n0 c0):=(uI.o.cell (p:=⟨g,m1*5+3,none⟩) Sj).trans hcell
             have hfq:wq.frozen? ⟨g,m1*5+3,none⟩=false:=(uI.o.frozen (p:=⟨g,m1*5+3,none⟩) Sj).trans MJ
             have hgq:g<wq.heap.size:=by omega
             have hRq:Reads wq wr.heap.size 5 A0 n0 (ed qs):=(HQ.o.2.1).below uI.o
             have hE1:Hid ((wq.alloc (.cells #[] 86)).drew.ownsRow wq.heap.size 86 5 (.slice (some ⟨wq.heap.size,0,none⟩) 0 0) 0 []):=ae (pV wq 86 (aF _))
             have hE2:Hid (((wq.alloc (.cells #[] 86)).alloc (.cells #[.int .i64 lk,.string lx,.int .i64 ln,.slice none 0 0,.int .i64 la] 86)).drew.ownsRow wq.heap.size 86 5 (.slice (some ⟨wq.heap.size,0,none⟩) 0 0) 0 []):=ae ((pV wq 86 (aF _)).alloc _)
             have Xw:Hid (((wq.alloc (.cells #[.int .i64 lk,.string lx,.int .i64 ln,.slice none 0 0,.int .i64 la] 86)).alloc (.cells #[] 86)).drew.ownsRow wq.heap.size 86 5 (.slice (some ⟨wq.heap.size+1,0,none⟩) 0 0) 0 []):=ae (zD (wq.alloc (.cells #[.int .i64 lk,.string lx,.int .i64 ln,.slice none 0 0,.int .i64 la] 86)) 86 (by simp) (by simp))
             have vZ:Hid (Below wq.heap.size wq (wq.alloc (.cells #[] 86)).drew):=ae (((aG wq.heap.size wq).alloc (aF _) _).drew)
             have EX:Hid (Below wq.heap.size wq ((wq.alloc (.cells #[] 86)).alloc (.cells #[.int .i64 lk,.string lx,.int .i64 ln,.slice none 0 0,.int .i64 la] 86)).drew):=ae ((((aG wq.heap.size wq).alloc (aF _) _).alloc (by simp) _).drew)
             have EY:Hid (Below wq.heap.size wq ((wq.alloc (.cells #[.int .i64 lk,.string lx,.int .i64 ln,.slice none 0 0,.int .i64 la] 86)).alloc (.cells #[] 86)).drew):=ae ((((aG wq.heap.size wq).alloc (aF _) _).alloc (by simp) _).drew)
             have hR1:=ae (hRq.below (vZ.o.mono (B:=wq.heap.size) (by omega)))
             have hR2:=ae (hRq.below (EX.o.mono (B:=wq.heap.size) (by omega)))
             have Xv:=ae (hRq.below (EY.o.mono (B:=wq.heap.size) (by omega)))
             have hX2:Hid (((wq.alloc (.cells #[] 86)).alloc (.cells #[.int .i64 lk,.string lx,.int .i64 ln,.slice none 0 0,.int .i64 la] 86)).drew.heap[wq.heap.size+1]?=some (.cells #[.int .i64 lk,.string lx,.int .i64 ln,.slice none 0 0,.int .i64 la] 86 (0,0))):=ae (alloc_at (wq.alloc (.cells #[] 86)) (.cells #[.int .i64 lk,.string lx,.int .i64 ln,.slice none 0 0,.int .i64 la] 86) (by simp))
             have hX3:Hid (((wq.alloc (.cells #[.int .i64 lk,.string lx,.int .i64 ln,.slice none 0 0,.int .i64 la] 86)).alloc (.cells #[] 86)).drew.heap[wq.heap.size]?=some (.cells #[.int .i64 lk,.string lx,.int .i64 ln,.slice none 0 0,.int .i64 la] 86 (0,0))):=ae ((((aG (wq.heap.size+1) (wq.alloc (.cells #[.int .i64 lk,.string lx,.int .i64 ln,.slice none 0 0,.int .i64 la] 86))).alloc (by simp) _).block _ (by omega)).trans (aH wq _))
             have hcA:(wq.alloc (.cells #[] 86)).cell? ⟨g,m1*5+3,none⟩=some (.slice A0 n0 c0):=(vZ.o.cell (p:=⟨g,m1*5+3,none⟩) hgq).trans hcq
             have hcB:(wq.alloc (.cells #[.int .i64 lk,.string lx,.int .i64 ln,.slice none 0 0,.int .i64 la] 86)).cell? ⟨g,m1*5+3,none⟩=some (.slice A0 n0 c0):=(((aG wq.heap.size wq).alloc (aF _) _).cell (p:=⟨g,m1*5+3,none⟩) hgq).trans hcq
             have hcC:((wq.alloc (.cells #[] 86)).alloc (.cells #[.int .i64 lk,.string lx,.int .i64 ln,.slice none 0 0,.int .i64 la] 86)).cell? ⟨g,m1*5+3,none⟩=some (.slice A0 n0 c0):=(EX.o.cell (p:=⟨g,m1*5+3,none⟩) hgq).trans hcq
             have hcD:((wq.alloc (.cells #[.int .i64 lk,.string lx,.int .i64 ln,.slice none 0 0,.int .i64 la] 86)).alloc (.cells #[] 86)).cell? ⟨g,m1*5+3,none⟩=some (.slice A0 n0 c0):=(EY.o.cell (p:=⟨g,m1*5+3,none⟩) hgq).trans hcq
             obtain⟨⟨x0,x1,x2,x3,x4⟩,_,_,_,_,_⟩:=dN (((vZ.o.block w4.heap.size (by omega)).trans jW.o:(wq.alloc (.cells #[] 86)).heap[w4.heap.size]?=_))
             obtain⟨⟨y0,y1,y2,y3,y4⟩,z0,z1,z2,z3,z4⟩:=dN jW.o
             go_upto_region 28 with (fail)
             rw[←ZP.o]
             have Wx:w4.heap.size<wq.heap.size:=by omega
             have HSQ:=ae hsq
             have HWS:=ae hws
             clear TC hbq hcell MJ hsq
             have oU:Hid (∀ w',Below wq.heap.size wq w'→w'.cell? ⟨g,m1*5+3,none⟩=some (.slice A0 n0 c0)∧w'.cell? ⟨w4.heap.size,0,none⟩=some (.int .i64 lk)∧w'.cell? ⟨w4.heap.size,1,none⟩=some (.string lx)∧w'.cell? ⟨w4.heap.size,2,none⟩=some (.int .i64 ln)∧w'.cell? ⟨w4.heap.size,3,none⟩=some (.slice none 0 0)∧w'.cell? ⟨w4.heap.size,4,none⟩=some (.int .i64 la)):=ae (fun w' hb=>⟨(hb.cell (p:=⟨g,m1*5+3,none⟩) hgq).trans hcq,(hb.cell (p:=⟨w4.heap.size,0,none⟩) Wx).trans y0,(hb.cell (p:=⟨w4.heap.size,1,none⟩) Wx).trans y1,(hb.cell (p:=⟨w4.heap.size,2,none⟩) Wx).trans y2,(hb.cell (p:=⟨w4.heap.size,3,none⟩) Wx).trans y3,(hb.cell (p:=⟨w4.heap.size,4,none⟩) Wx).trans y4⟩)
             refine dK.iP (fun w'=>w'.cell? ⟨g,m1*5+3,none⟩=some (.slice A0 n0 c0)∧w'.cell? ⟨w4.heap.size,0,none⟩=some (.int .i64 lk)∧w'.cell? ⟨w4.heap.size,1,none⟩=some (.string lx)∧w'.cell? ⟨w4.heap.size,2,none⟩=some (.int .i64 ln)∧w'.cell? ⟨w4.heap.size,3,none⟩=some (.slice none 0 0)∧w'.cell? ⟨w4.heap.size,4,none⟩=some (.int .i64 la)) 14 (by kernel_rfl) (oU.o _ (aG _ _).drew) (fun hHeld=>?_)
             refine dK.RH (i:=0) (C:=[0,12,13,14]) (v:=?al3) rfl (by kernel_rfl) aA (bD ⟨by rfl,?abZ⟩) ‹_› ?_
             case abZ=>(intro w1 hSw;(try dsimp only at hSw);go_simp;try with_reducible rfl)
             simp only[ah,ai,Act.put,au,ay,az]
             refine dK.RH (i:=1) (C:=[1,12,13,14]) (v:=?al4) rfl (by kernel_rfl) aA (bD ⟨by rfl,?ab1⟩) ‹_› ?_
             case ab1=>(intro w1 hSw;(try dsimp only at hSw);go_simp;try with_reducible rfl)
             simp only[ah,aj,ai,Act.put,au,ay,az]
             refine dK.RH (i:=3) (C:=[3,5,6,7,8,11,14]) (v:=?al5) rfl (by kernel_rfl) aA (bD ⟨by rfl,?ab2⟩) ‹_› ?_
             case ab2=>(intro w1 hSw;(try dsimp only at hSw);go_simp;try with_reducible rfl)
             simp only[ah,aj,ai,Act.put,au,ay,az]
             refine dK.RH (i:=4) (C:=[4,5,6,7,8,11,14]) (v:=?al6) rfl (by kernel_rfl) aA (bD ⟨by rfl,?ab3⟩) ‹_› ?_
             case ab3=>(intro w1 hSw;(try dsimp only at hSw);go_simp;try with_reducible rfl)
             simp only[ah,aj,ai,Act.put,au,ay,az]
             refine dK.RH (i:=5) (C:=[5,6,7,8,11,14]) (v:=?al7) rfl (by kernel_rfl) aA (bD ⟨by rfl,?ab4⟩) ‹_› ?_
             case ab4=>(intro w1 hSw;(try dsimp only at hSw);go_simp;try with_reducible rfl)
             simp only[ah,aj,ai,Act.put,au,ay,az]
             refine dK.RH (i:=6) (C:=[6,7,8,11,14]) (v:=?al8) rfl (by kernel_rfl) aA (bD ⟨by rfl,?ab5⟩) ‹_› ?_
             case ab5=>(intro w1 hSw;(try dsimp only at hSw);go_simp;try with_reducible rfl)
             simp only[ah,aj,ai,Act.put,au,ay,az]
             refine dK.RH (i:=7) (C:=[7,8,11,14]) (v:=?al9) rfl (by kernel_rfl) aA (bD ⟨by rfl,?ab6⟩) ‹_› ?_
             case ab6=>(intro w1 hSw;(try dsimp only at hSw);go_simp;try with_reducible rfl)
             simp only[ah,aj,ai,Act.put,au,ay,az]
             refine dK.RH (i:=9) (C:=[9,10,11,14]) (v:=?ama) rfl (by kernel_rfl) aA (bD ⟨by rfl,?ab7⟩) ‹_› ?_
             case ab7=>(intro w1 hSw;(try dsimp only at hSw);go_simp;try with_reducible rfl)
             simp only[ah,aj,ai,Act.put,au,ay,az]
             refine dK.dM (rs:=[2,10]) (by kernel_rfl) (by simp) ?_
             refine dK.dJ.cons rfl (fun K hK=>?_) (dK.dJ.cons rfl (fun K hK=>?_) dK.dJ.nil)
             refine qZ _ rfl rfl ?_
             refine hK.o _ _ (oU.o _ vZ.o) (fun hHeld=>?_)
             clear hK K
             simp only[ah,aj,ai,Act.put,au,ay,az,World.size_alloc,World.size_drew]
             refine dK.dM (rs:=[8,10]) (by kernel_rfl) (by simp) ?_
             refine dK.dJ.cons rfl (fun K hK=>?_) (dK.dJ.cons rfl (fun K hK=>?_) dK.dJ.nil)
             refine fG _ rfl _ _ 84 rfl wq.heap.size 86 i0 _ 5 64 Tryz.underlying84 hi hz0 hz1 hz2 rfl (by decide) _ _ _ rfl hE1.o wr.heap.size A0 n0 c0 (ed qs) rfl hR1.o (fF _) ?a1 ?a2 ?a3 ?_
             case a1=>(unfold maxLen;omega)
             case a2=>omega
             case a3=>(first|omega|(simp;done)|(simp;omega))
             intro v5 w5 hown5 fJ jP
             have jq:Hid (w5.ownsRow wq.heap.size 86 5 v5 n0 (ed qs)):=ae (by rw[Nat.zero_add,List.nil_append] at hown5;exact hown5)
             have jA:Hid (Below wq.heap.size wq w5):=ae (vZ.o.grown fJ vZ.o.size (fun k e=>by have he:wq.heap.size+0=k:=aY e;omega))
             have hs5:=jA.o.size
             clear hown5 fJ jP
             refine hK.o _ _ (oU.o _ jA.o) (fun hHeld=>?_)
             clear hK K
             simp only[ah,aj,ai,Act.put,au,ay,az]
             refine dK.dM (rs:=[10]) (by kernel_rfl) (by simp) ?_
             refine dK.dJ.cons rfl (fun K hK=>?_) dK.dJ.nil
             refine kR _ rfl 138 rfl lk ln la lx none 0 0 rfl ?_
             refine hK.o _ _ (oU.o _ (jA.o.alloc hs5 _)) (fun hHeld=>?_)
             clear hK K
             simp only[ah,aj,ai,Act.put,au,ay,az,World.size_alloc,World.size_drew]
             refine dK.dM (rs:=[11]) (by kernel_rfl) (by simp) ?_
             refine dK.dJ.cons rfl (fun K hK=>?_) dK.dJ.nil
             refine fG _ rfl _ _ 84 rfl wq.heap.size 86 i0 _ 5 64 Tryz.underlying84 hi hz0 hz1 hz2 rfl (by decide) _ _ _ rfl (jq.o.alloc _) (w5.heap.size+1) _ _ _ (TP.cs ((.mk lk lx ln [] la:T),none,0)) rfl ⟨rfl,fun _=>⟨_,rfl,Nat.lt_succ_self _,bz (aH w5 _)⟩⟩ ?b1 ?b2 ?b3 ?b4 ?_
             case b1=>(rw[←fB];exact fF _)
             case b2=>(unfold maxLen;omega)
             case b3=>omega
             case b4=>(first|omega|(simp;done)|(simp;omega))
             intro v6 w6 hown6 hgrow6 zO
             obtain⟨g6,cap6,rfl,TD,TE⟩:=hown6.form (Nat.succ_pos _)
             have qR:=ae hown6
             have kD:Hid (Below wq.heap.size wq w6):=ae ((jA.o.alloc hs5 _).grown hgrow6 (jA.o.alloc hs5 _).size (fun k e=>(jq.o.lt k e).1))
             have hc6:w6.cell? ⟨g,m1*5+3,none⟩=some (.slice A0 n0 c0):=(kD.o.cell (p:=⟨g,m1*5+3,none⟩) hgq).trans hcq
             have Td:w6.frozen? ⟨g,m1*5+3,none⟩=false:=(kD.o.frozen (p:=⟨g,m1*5+3,none⟩) hgq).trans hfq
             clear hown6 hgrow6 zO
             refine hK.o _ _ (oU.o _ kD.o) (fun hHeld=>?_)
             clear hK K
             simp only[ah,aj,ai,Act.put,au,ay,az]
             refine dK.RH (i:=12) (C:=[12,13,14]) (v:=?amb) rfl (by kernel_rfl) aA (bD ⟨by rfl,?ab8⟩) ‹_› ?_
             case ab8=>(intro w1 hSw;(try dsimp only at hSw);go_simp;try with_reducible rfl)
             simp only[ah,aj,ai,Act.put,au,ay,az]
             refine dK.RH (i:=13) (C:=[13,14]) (v:=?aiR) rfl (by kernel_rfl) aA (bD ⟨by rfl,?YX⟩) ‹_› ?_
             case YX=>(intro w1 hSw;(try dsimp only at hSw);go_simp;try with_reducible rfl)
             simp only[ah,aj,ai,Act.put,au,ay,az]
             refine dK.dM (rs:=[14]) (by kernel_rfl) (by simp) ?_
             refine dK.dJ.last rfl (fun K hK=>?_)
             simp only[ah,aj,ai]
             go_simp
             refine hK.o _ _ ?_
             clear hK K
             refine dK.gW (by kernel_rfl) ?_ _
             rotate_left
             refine kR _ rfl 138 rfl lk ln la lx none 0 0 rfl ?_
             refine hK.o _ _ (oU.o _ EX.o) (fun hHeld=>?_)
             clear hK K
             simp only[ah,aj,ai,Act.put,au,ay,az,World.size_alloc,World.size_drew]
             refine dK.dM (rs:=[8]) (by kernel_rfl) (by simp) ?_
             refine dK.dJ.cons rfl (fun K hK=>?_) dK.dJ.nil
             refine fG _ rfl _ _ 84 rfl wq.heap.size 86 i0 _ 5 64 Tryz.underlying84 hi hz0 hz1 hz2 rfl (by decide) _ _ _ rfl hE2.o wr.heap.size A0 n0 c0 (ed qs) rfl hR2.o (fF _) ?a1 ?a2 ?a3 ?_
             case a1=>(unfold maxLen;omega)
             case a2=>omega
             case a3=>(first|omega|(simp;done)|(simp;omega))
             intro v5 w5 hown5 fJ jP
             have jq:Hid (w5.ownsRow wq.heap.size 86 5 v5 n0 (ed qs)):=ae (by rw[Nat.zero_add,List.nil_append] at hown5;exact hown5)
             have jA:Hid (Below wq.heap.size wq w5):=ae (EX.o.grown fJ EX.o.size (fun k e=>by have he:wq.heap.size+0=k:=aY e;omega))
             have hs5:=jA.o.size
             have uC:=ae ((fJ.block (wq.heap.size+1) (by first|omega|(simp;done)|(simp;omega)) (fun e=>by have he:wq.heap.size+1=wq.heap.size:=aY e;omega)).trans hX2.o)
             clear hown5 fJ jP
             refine hK.o _ _ (oU.o _ jA.o) (fun hHeld=>?_)
             clear hK K
             simp only[ah,aj,ai,Act.put,au,ay,az]
             refine dK.dM (rs:=[11]) (by kernel_rfl) (by simp) ?_
             refine dK.dJ.cons rfl (fun K hK=>?_) dK.dJ.nil
             refine fG _ rfl _ _ 84 rfl wq.heap.size 86 i0 _ 5 64 Tryz.underlying84 hi hz0 hz1 hz2 rfl (by decide) _ _ _ rfl jq.o (wq.heap.size+1+1) _ _ _ (TP.cs ((.mk lk lx ln [] la:T),none,0)) rfl ⟨rfl,fun _=>⟨_,rfl,Nat.lt_succ_self _,bz uC.o⟩⟩ ?b1 ?b2 ?b3 ?b4 ?_
             case b1=>(rw[←fB];exact fF _)
             case b2=>(unfold maxLen;omega)
             case b3=>omega
             case b4=>(first|omega|(simp;done)|(simp;omega))
             intro v6 w6 hown6 hgrow6 zO
             obtain⟨g6,cap6,rfl,TD,TE⟩:=hown6.form (Nat.succ_pos _)
             have qR:=ae hown6
             have kD:Hid (Below wq.heap.size wq w6):=ae (jA.o.grown hgrow6 jA.o.size (fun k e=>(jq.o.lt k e).1))
             have hc6:w6.cell? ⟨g,m1*5+3,none⟩=some (.slice A0 n0 c0):=(kD.o.cell (p:=⟨g,m1*5+3,none⟩) hgq).trans hcq
             have Td:w6.frozen? ⟨g,m1*5+3,none⟩=false:=(kD.o.frozen (p:=⟨g,m1*5+3,none⟩) hgq).trans hfq
             clear hown6 hgrow6 zO
             refine hK.o _ _ (oU.o _ kD.o) (fun hHeld=>?_)
             clear hK K
             simp only[ah,aj,ai,Act.put,au,ay,az]
             refine dK.RH (i:=12) (C:=[12,13,14]) (v:=?aiS) rfl (by kernel_rfl) aA (bD ⟨by rfl,?YY⟩) ‹_› ?_
             case YY=>(intro w1 hSw;(try dsimp only at hSw);go_simp;try with_reducible rfl)
             simp only[ah,aj,ai,Act.put,au,ay,az]
             refine dK.RH (i:=13) (C:=[13,14]) (v:=?aiT) rfl (by kernel_rfl) aA (bD ⟨by rfl,?YZ⟩) ‹_› ?_
             case YZ=>(intro w1 hSw;(try dsimp only at hSw);go_simp;try with_reducible rfl)
             simp only[ah,aj,ai,Act.put,au,ay,az]
             refine dK.dM (rs:=[14]) (by kernel_rfl) (by simp) ?_
             refine dK.dJ.last rfl (fun K hK=>?_)
             simp only[ah,aj,ai]
             go_simp
             refine hK.o _ _ ?_
             clear hK K
             refine dK.gW (by kernel_rfl) ?_ _
             rotate_left
             refine kR _ rfl 138 rfl lk ln la lx none 0 0 rfl ?_
             refine hK.o _ _ (oU.o _ (((aG wq.heap.size wq).alloc (aF _) _).drew)) (fun hHeld=>?_)
             clear hK K
             simp only[ah,aj,ai,Act.put,au,ay,az,World.size_alloc,World.size_drew]
             refine dK.dM (rs:=[2]) (by kernel_rfl) (by simp) ?_
             refine dK.dJ.cons rfl (fun K hK=>?_) dK.dJ.nil
             refine qZ _ rfl rfl ?_
             refine hK.o _ _ (oU.o _ EY.o) (fun hHeld=>?_)
             clear hK K
             simp only[ah,aj,ai,Act.put,au,ay,az,World.size_alloc,World.size_drew]
             refine dK.dM (rs:=[8]) (by kernel_rfl) (by simp) ?_
             refine dK.dJ.cons rfl (fun K hK=>?_) dK.dJ.nil
             refine fG _ rfl _ _ 84 rfl wq.heap.size 86 i0 _ 5 64 Tryz.underlying84 hi hz0 hz1 hz2 rfl (by decide) _ _ _ rfl Xw.o wr.heap.size A0 n0 c0 (ed qs) rfl Xv.o (fF _) ?a1 ?a2 ?a3 ?_
             case a1=>(unfold maxLen;omega)
             case a2=>omega
             case a3=>(first|omega|(simp;done)|(simp;omega))
             intro v5 w5 hown5 fJ jP
             have jq:Hid (w5.ownsRow wq.heap.size 86 5 v5 n0 (ed qs)):=ae (by rw[Nat.zero_add,List.nil_append] at hown5;exact hown5)
             have jA:Hid (Below wq.heap.size wq w5):=ae (EY.o.grown fJ EY.o.size (fun k e=>by have he:wq.heap.size+1=k:=aY e;omega))
             have hs5:=jA.o.size
             have uC:=ae ((fJ.block wq.heap.size (by first|omega|(simp;done)|(simp;omega)) (fun e=>by have he:wq.heap.size=wq.heap.size+1:=aY e;omega)).trans hX3.o)
             clear hown5 fJ jP
             refine hK.o _ _ (oU.o _ jA.o) (fun hHeld=>?_)
             clear hK K
             simp only[ah,aj,ai,Act.put,au,ay,az]
             refine dK.dM (rs:=[11]) (by kernel_rfl) (by simp) ?_
             refine dK.dJ.cons rfl (fun K hK=>?_) dK.dJ.nil
             refine fG _ rfl _ _ 84 rfl wq.heap.size 86 i0 _ 5 64 Tryz.underlying84 hi hz0 hz1 hz2 rfl (by decide) _ _ _ rfl jq.o (wq.heap.size+1) _ _ _ (TP.cs ((.mk lk lx ln [] la:T),none,0)) rfl ⟨rfl,fun _=>⟨_,rfl,Nat.lt_succ_self _,bz uC.o⟩⟩ ?b1 ?b2 ?b3 ?b4 ?_
             case b1=>(rw[←fB];exact fF _)
             case b2=>(unfold maxLen;omega)
             case b3=>omega
             case b4=>(first|omega|(simp;done)|(simp;omega))
             intro v6 w6 hown6 hgrow6 zO
             obtain⟨g6,cap6,rfl,TD,TE⟩:=hown6.form (Nat.succ_pos _)
             have qR:=ae hown6
             have kD:Hid (Below wq.heap.size wq w6):=ae (jA.o.grown hgrow6 jA.o.size (fun k e=>(jq.o.lt k e).1))
             have hc6:w6.cell? ⟨g,m1*5+3,none⟩=some (.slice A0 n0 c0):=(kD.o.cell (p:=⟨g,m1*5+3,none⟩) hgq).trans hcq
             have Td:w6.frozen? ⟨g,m1*5+3,none⟩=false:=(kD.o.frozen (p:=⟨g,m1*5+3,none⟩) hgq).trans hfq
             clear hown6 hgrow6 zO
             refine hK.o _ _ (oU.o _ kD.o) (fun hHeld=>?_)
             clear hK K
             simp only[ah,aj,ai,Act.put,au,ay,az]
             refine dK.RH (i:=12) (C:=[12,13,14]) (v:=?aiU) rfl (by kernel_rfl) aA (bD ⟨by rfl,?Y0⟩) ‹_› ?_
             case Y0=>(intro w1 hSw;(try dsimp only at hSw);go_simp;try with_reducible rfl)
             simp only[ah,aj,ai,Act.put,au,ay,az]
             refine dK.RH (i:=13) (C:=[13,14]) (v:=?aiV) rfl (by kernel_rfl) aA (bD ⟨by rfl,?Y1⟩) ‹_› ?_
             case Y1=>(intro w1 hSw;(try dsimp only at hSw);go_simp;try with_reducible rfl)
             simp only[ah,aj,ai,Act.put,au,ay,az]
             refine dK.dM (rs:=[14]) (by kernel_rfl) (by simp) ?_
             refine dK.dJ.last rfl (fun K hK=>?_)
             simp only[ah,aj,ai]
             go_simp
             refine hK.o _ _ ?_
             clear hK K
             refine dK.gW (by kernel_rfl) ?_ _
             rotate_left
             all_goals
              have ae8:why=0:=by simpa using hwy
              have aph:j<i2:=hji ae8
              clear ae8
              go_wp2_with fail
              go_roundw
              case measure=>simp[intOf];omega
              case rel =>
               obtain⟨r1,r2⟩:=Ig (x:=((.mk lk lx ln [] la:T),none,0)) (n1:=n0+1) (m1:=m1) (i2:=i2) HO.o lV.o FT.o hxk.o (uI.o.trans (kD.o.mono uI.o.size)) HQ.o.1 HQ.o.2.2 (.mk lk lx ln [] la hn1 hn2 hlx hl4 (by simp) (fun e he=>by cases he)) ⟨aF _,.nil _⟩ qR.o uI.o.size (by rw[htn]) (by omega) (by omega) (by omega) hs1
               exact⟨i2,m,g,cap,_,hi2,rfl,rfl,hm1,hm2,by rw[List.length_set];exact lV.o,r1,ae r2,(HB.o.trans ((uI.o.trans (kD.o.mono uI.o.size)).mono hs1)).setCell (p:=⟨g,m1*5+3,none⟩) abW _,ae (hdp.o.kid FT.o (.leaf (by have:=HM1.o;omega) _ _ _ _)),ae (hex.o.leaf HNC.o hs oN.o (by rw[hcc];exact zZ) (by rw[lV.o];exact HM1.o) FT.o HW7.o hi2)⟩
            ·have ae9:Hid ((w4.alloc (.cells #[.int .i64 lk,.string lx,.int .i64 ln,.slice none 0 0,.int .i64 la] 86)).heap[w.heap.size]?=some (.cells #[.int .i64 0,.string ⟨#[]⟩,.int .i64 0,.slice none 0 0,.int .i64 0] 86 (0,0))):=ae ((((aG w4.heap.size w4).alloc (aF _) _).block _ (by omega)).trans aiQ.o)
             obtain⟨⟨k0,k1,k2,k3,k4⟩,f0,f1,f2,f3,f4⟩:=dN ae9.o
             go_wp2_with fail
             refine aJ (iQ rfl rfl rfl rfl (dR ae9.o)) rfl ?_
             exact⟨jE (hex.o.YU HNC.o (by rw[hcc];exact zZ) HW7.o (by simpa using hwy)) _ _ _ _,dS (((HB1.o.trans (HB.o.mono (by omega))).trans (HB4.o.mono (by omega))).alloc (by omega) _) (aF _)⟩
           ·as_aux_lemma =>
            cases h12:decide (12≤(m:Int)-1)
            ·as_aux_lemma =>
             have aiW:m≤12:=by simp at h12;omega
             have hRo:Hid (Reads wr wr.heap.size 5 (some ⟨g,0,none⟩) m (ed ps)):=ae (Reads.aal HO.o)
             go_upto_region 23 with (fail)
             go_wp2_with (at_builtin;refine jQ _ rfl _ _ 84 rfl w1.heap.size 86 i0 _ 5 64 Tryz.underlying84 hi hz0 hz1 hz2 rfl (by decide) _ _ _ rfl (pV wr 86 hs1) wr.heap.size _ _ _ (ed ps) rfl (hRo.o.alloc (aF _) _) ?c1 ?c2 ?c3 ?c4 ?_)
             case c1=>exact fF _
             case c2=>unfold maxLen;omega
             case c3=>omega
             case c4=>simp;omega
             intro v5 w5 hown5 fJ jP
             have jq:Hid (w5.ownsRow w1.heap.size 86 5 v5 m (ed ps)):=ae (by rw[hws];simpa using hown5)
             have jA:Hid (Below wr.heap.size wr w5):=ae (((aG wr.heap.size wr).alloc (aF _) _).grown fJ (by simp) (fun k e=>by have:=aY e;simp at this;omega))
             have afa:Hid (∀ k,v5.ownBlock=some k→wr.heap.size≤k):=ae (fun k e=>by
              rcases jP with h|h
              ·rw[h] at e;have he:wr.heap.size=k:=aY e;omega
              ·rw[h] at e;have:=aY e;first|omega|(simp at this;omega))
             have hs5:=jA.o.size
             clear hown5 fJ jP
             obtain⟨g5,cap5,rfl,apj,apk⟩:=jq.o.form (by omega)
             go_wp2_with (at_builtin;refine jQ _ rfl _ _ 84 rfl w1.heap.size 86 i0 _ 5 64 Tryz.underlying84 hi hz0 hz1 hz2 rfl (by decide) _ _ _ rfl (jq.o.alloc _) (w5.heap.size+1) _ _ _ (TP.cs ((.mk 1 ⟨#[]⟩ 0 [] (j:Int):T),none,0)) rfl ⟨rfl,fun _=>⟨_,rfl,Nat.lt_succ_self _,bz (aH w5 _)⟩⟩ ?d1 ?d2 ?d3 ?d4 ?_)
             case d1=>rw[←fB];exact fF _
             case d2=>unfold maxLen;omega
             case d3=>omega
             case d4=>simp;omega
             intro v6 w6 hown6 hgrow6 zO
             have hg5:wr.heap.size≤g5:=afa.o g5 rfl
             have qR:Hid (w6.ownsRow w1.heap.size 86 5 v6 (m+1) (ed (ps++[((.mk 1 ⟨#[]⟩ 0 [] (j:Int):T),none,0)]))):=ae (by rw[jv,fB,hws];exact hown6)
             have kD:Hid (Below wr.heap.size wr w6):=ae ((jA.o.alloc hs5 _).grown hgrow6 (by simp;omega) (fun k e=>by have he:g5=k:=aY e;omega))
             obtain⟨g6,cap6,rfl,TD,TE⟩:=hown6.form (by omega)
             have hg6:wr.heap.size≤g6:=by
              rcases zO with h|h
              ·have he:g6=g5:=aY h;omega
              ·have he:g6=w5.heap.size+1:=aY h;omega
             have hs6:=kD.o.size
             clear hown6 hgrow6 zO
             go_wp2_with fail
             go_roundw
             case rel =>
              refine⟨j+1,m+1,g6,cap6,ps++[((.mk 1 ⟨#[]⟩ 0 [] (j:Int):T),none,0)],by omega,by go_num,rfl,by omega,by omega,by rw[aZ,lV.o];rfl,qR.o,ae fun p hp=>?_,HB.o.trans (kD.o.mono hs1),ae (hdp.o.push _),ae (hex.o.open HNC.o oN.o (by rw[hcc];exact zZ) (by rw[lV.o];exact aiW))⟩
              rcases cu.1 hp with hp|hp
              ·obtain⟨q1,q2,q3⟩:=hxk.o p hp
               exact⟨q1.more (aW _),q2,(q3.kept fun k hk=>kD.o.block k hk.2.1).mono fun k hk=>⟨hk.1,by have:=hk.2.1;omega,by have:=hk.2.1;omega⟩⟩
              ·obtain rfl:p=((.mk 1 ⟨#[]⟩ 0 [] (j:Int):T),none,0):=by simpa using hp
               exact⟨⟨⟨(show (-9223372036854775808:Int)≤0 by decide),(show (0:Int)≤9223372036854775807 by decide)⟩,(show (⟨#[]⟩:ByteArray).size≤600 by decide),(show (1:Int)=4→(⟨#[]⟩:ByteArray).size≤40 by decide),aX _,fun e he=>by cases he⟩,aF _,.nil _⟩
             case measure=>simp[intOf];omega
            ·obtain⟨⟨k0,k1,k2,k3,k4⟩,f0,f1,f2,f3,f4⟩:=dN hBw.o
             go_wp2_with fail
             refine aJ (iQ rfl rfl rfl rfl (dR hBw.o)) rfl ?_
             exact⟨jE (hex.o.YS HNC.o (by rw[hcc];exact zZ) (by rw[lV.o];have:=h12;simp at this;omega)) _ _ _ _,dS (HB1.o.trans (HB.o.mono (by omega))) (aF _)⟩
          ·obtain⟨⟨k0,k1,k2,k3,k4⟩,f0,f1,f2,f3,f4⟩:=dN hBw.o
           go_wp2_with fail
           refine aJ (iQ rfl rfl rfl rfl (dR hBw.o)) rfl ?_
           exact⟨jE (hex.o.YT HNC.o oN.o) _ _ _ _,dS (HB1.o.trans (HB.o.mono (by omega))) (aF _)⟩
       ·obtain⟨zZ,uJ,h45,hlb,L8⟩:(cc==40)=false∧(cc==34)=false∧(cc==45)=false∧qG s[j]=false∧CJ s[j]=false:=by
         refine⟨?_,?_,?_,?_,?_⟩
         all_goals (apply Bool.eq_false_iff.2;intro h;exact hok (by simp[h]))
        clear hok hbad
        have ae6:(cc != 40)=true:=by simp[bne,zZ]
        have Ya:(cc != 34)=true:=by simp[bne,uJ]
        have ae7:(cc != 45)=true:=by simp[bne,h45]
        rw[hlb] at hLj
        rw[L8] at hDj
        obtain⟨⟨k0,k1,k2,k3,k4⟩,f0,f1,f2,f3,f4⟩:=dN hBw.o
        go_wp2_with fail
        refine (hLj.o _).mono ?_
        rintro e w' ⟨rfl,rfl⟩
        go_wp2_with fail
        refine (hDj.o _).mono ?_
        rintro e w' ⟨rfl,rfl⟩
        go_wp2_with fail
        refine aJ (iQ rfl rfl rfl rfl (dR hBw.o)) rfl ?_
        exact⟨jE (hex.o.PH HNC.o (by rw[hcc];exact zZ) hlb) _ _ _ _,dS (HB1.o.trans (HB.o.mono (by omega))) (aF _)⟩
      ·
       cases hm0:((m:Int)-1==0)
       ·as_aux_lemma =>
        obtain⟨m1,MI⟩:∃ m1,m=m1+2:=⟨m-2,by have:=hm0;simp at this;omega⟩
        obtain⟨mt,hmt⟩:∃ mt,mt=m1+1:=⟨_,rfl⟩
        have e0:(m:Int)-1=(mt:Int):=by omega
        have e1:(mt:Int)-1=(m1:Int):=by omega
        have e2:IntKind.i64.wrap ((mt:Int)-1)=(m1:Int):=by rw[e1];unfold IntKind.wrap;simp[IntKind.bits,IntKind.signed];omega
        have e3:IntKind.i64.wrap (m1:Int)=(m1:Int):=by rw[←e1];exact e2.trans e1.symm
        have apl:((mt:Int)==0)=false:=by simp;omega
        have l1:m1<m:=by omega
        have l2:mt<m:=by omega
        obtain⟨pt,hpt⟩:∃ pt,ps[m1]?=some pt:=⟨_,aO (by rw[lV.o];exact l1)⟩
        obtain⟨pc,hpc⟩:∃ pc,ps[mt]?=some pc:=⟨_,aO (by rw[lV.o];exact l2)⟩
        have FT:=ae hpt
        have HM1:=ae (bU MI hmt)
        have hcell:=(mG HO.o lV.o hpt).2.2.2.1
        have MJ:=(mG HO.o lV.o hpt).2.2.2.2.2
        obtain⟨y0,y1,y2,y3,y4,_⟩:=mG HO.o lV.o hpc
        have FQ:=ae (hxk.o pt (aN hpt))
        have HCK:=ae (hxk.o pc (aN hpc))
        have Sj:g<wr.heap.size:=((HO.o).lt g rfl).2
        have abW:w1.heap.size≤g:=((HO.o).lt g rfl).1
        have amc:m≤cap:=by
         rcases HO.o.2 with⟨h',_⟩|⟨g',cap',cur,h',_,_,hnc,_⟩
         ·simp at h'
         ·simp only[Value.slice.injEq,Option.some.injEq,Addr.mk.injEq,and_true,true_and] at h'
          obtain⟨_,rfl⟩:=h'
          exact hnc
        have HPC:=ae hpc
        clear hpt hpc hm0 MI hmt
        obtain⟨⟨tk,ts,tn,tl,ta⟩,A0,c0⟩:=pt
        obtain⟨⟨ck,cs,cn,cl,ca⟩,C0,Dl⟩:=pc
        simp only[T.kids] at hcell FQ HCK
        simp only[T.k,T.s,T.n,T.kids,T.at_] at y0 y1 y2 y3 y4
        obtain⟨qs,hq1,hq2,hq3⟩:=DC (B:=wr.heap.size) (fun k hk=>hk.2.1) FQ.o.2.2
        have hkl:tl.length≤j:=FQ.o.1.2.2.2.1
        have HQ:=ae (bU hq1 (bU hq2 hq3))
        clear hq1 hq2 hq3
        generalize htn:tl.length=n0 at *
        obtain⟨wq,TC⟩:∃ wq,wq=wr:=⟨_,rfl⟩
        have ZP:=ae TC
        have uI:Hid (Below wr.heap.size wr wq):=ae (by rw[TC];exact aG _ _)
        have hcq:wq.cell? ⟨g,m1*5+3,none⟩=some (.slice A0 n0 c0):=by rw[TC];exact hcell
        have hfq:wq.frozen? ⟨g,m1*5+3,none⟩=false:=by rw[TC];exact MJ
        have hgq:g<wq.heap.size:=by rw[TC];exact Sj
        rw[←TC] at y0 y1 y2 y3 y4
        have hRq:Reads wq wr.heap.size 5 A0 n0 (ed qs):=(HQ.o.2.1).below uI.o
        have hwq:wr.heap.size≤wq.heap.size:=uI.o.size
        have hE1:Hid ((wq.alloc (.cells #[] 86)).drew.ownsRow wq.heap.size 86 5 (.slice (some ⟨wq.heap.size,0,none⟩) 0 0) 0 []):=ae (pV wq 86 (aF _))
        have hE2:Hid (((wq.alloc (.cells #[] 86)).alloc (.cells #[.int .i64 ck,.string cs,.int .i64 cn,.slice C0 cl.length Dl,.int .i64 ca] 86)).drew.ownsRow wq.heap.size 86 5 (.slice (some ⟨wq.heap.size,0,none⟩) 0 0) 0 []):=ae ((pV wq 86 (aF _)).alloc _)
        have Xw:Hid (((wq.alloc (.cells #[.int .i64 ck,.string cs,.int .i64 cn,.slice C0 cl.length Dl,.int .i64 ca] 86)).alloc (.cells #[] 86)).drew.ownsRow wq.heap.size 86 5 (.slice (some ⟨wq.heap.size+1,0,none⟩) 0 0) 0 []):=ae (zD (wq.alloc (.cells #[.int .i64 ck,.string cs,.int .i64 cn,.slice C0 cl.length Dl,.int .i64 ca] 86)) 86 (by simp) (by simp))
        have vZ:Hid (Below wq.heap.size wq (wq.alloc (.cells #[] 86)).drew):=ae (((aG wq.heap.size wq).alloc (aF _) _).drew)
        have EX:Hid (Below wq.heap.size wq ((wq.alloc (.cells #[] 86)).alloc (.cells #[.int .i64 ck,.string cs,.int .i64 cn,.slice C0 cl.length Dl,.int .i64 ca] 86)).drew):=ae ((((aG wq.heap.size wq).alloc (aF _) _).alloc (by simp) _).drew)
        have EY:Hid (Below wq.heap.size wq ((wq.alloc (.cells #[.int .i64 ck,.string cs,.int .i64 cn,.slice C0 cl.length Dl,.int .i64 ca] 86)).alloc (.cells #[] 86)).drew):=ae ((((aG wq.heap.size wq).alloc (aF _) _).alloc (by simp) _).drew)
        have hR1:=ae (hRq.below (vZ.o.mono (B:=wq.heap.size) hwq))
        have hR2:=ae (hRq.below (EX.o.mono (B:=wq.heap.size) hwq))
        have Xv:=ae (hRq.below (EY.o.mono (B:=wq.heap.size) hwq))
        have hX2:Hid (((wq.alloc (.cells #[] 86)).alloc (.cells #[.int .i64 ck,.string cs,.int .i64 cn,.slice C0 cl.length Dl,.int .i64 ca] 86)).drew.heap[wq.heap.size+1]?=some (.cells #[.int .i64 ck,.string cs,.int .i64 cn,.slice C0 cl.length Dl,.int .i64 ca] 86)):=ae (alloc_at (wq.alloc (.cells #[] 86)) (.cells #[.int .i64 ck,.string cs,.int .i64 cn,.slice C0 cl.length Dl,.int .i64 ca] 86) (by simp))
        have hX3:Hid (((wq.alloc (.cells #[.int .i64 ck,.string cs,.int .i64 cn,.slice C0 cl.length Dl,.int .i64 ca] 86)).alloc (.cells #[] 86)).drew.heap[wq.heap.size]?=some (.cells #[.int .i64 ck,.string cs,.int .i64 cn,.slice C0 cl.length Dl,.int .i64 ca] 86)):=ae ((((aG (wq.heap.size+1) (wq.alloc (.cells #[.int .i64 ck,.string cs,.int .i64 cn,.slice C0 cl.length Dl,.int .i64 ca] 86))).alloc (by simp) _).block _ (by omega)).trans (aH wq _))
        have hcA:(wq.alloc (.cells #[] 86)).cell? ⟨g,m1*5+3,none⟩=some (.slice A0 n0 c0):=(vZ.o.cell (p:=⟨g,m1*5+3,none⟩) hgq).trans hcq
        have hcB:(wq.alloc (.cells #[.int .i64 ck,.string cs,.int .i64 cn,.slice C0 cl.length Dl,.int .i64 ca] 86)).cell? ⟨g,m1*5+3,none⟩=some (.slice A0 n0 c0):=(((aG wq.heap.size wq).alloc (aF _) _).cell (p:=⟨g,m1*5+3,none⟩) hgq).trans hcq
        have hcC:((wq.alloc (.cells #[] 86)).alloc (.cells #[.int .i64 ck,.string cs,.int .i64 cn,.slice C0 cl.length Dl,.int .i64 ca] 86)).cell? ⟨g,m1*5+3,none⟩=some (.slice A0 n0 c0):=(EX.o.cell (p:=⟨g,m1*5+3,none⟩) hgq).trans hcq
        have hcD:((wq.alloc (.cells #[.int .i64 ck,.string cs,.int .i64 cn,.slice C0 cl.length Dl,.int .i64 ca] 86)).alloc (.cells #[] 86)).cell? ⟨g,m1*5+3,none⟩=some (.slice A0 n0 c0):=(EY.o.cell (p:=⟨g,m1*5+3,none⟩) hgq).trans hcq
        have x0:(wq.alloc (.cells #[] 86)).cell? ⟨g,mt*5,none⟩=some (.int .i64 ck):=(vZ.o.cell (p:=⟨g,mt*5,none⟩) hgq).trans y0
        have x1:(wq.alloc (.cells #[] 86)).cell? ⟨g,mt*5+1,none⟩=some (.string cs):=(vZ.o.cell (p:=⟨g,mt*5+1,none⟩) hgq).trans y1
        have x2:(wq.alloc (.cells #[] 86)).cell? ⟨g,mt*5+2,none⟩=some (.int .i64 cn):=(vZ.o.cell (p:=⟨g,mt*5+2,none⟩) hgq).trans y2
        have x3:(wq.alloc (.cells #[] 86)).cell? ⟨g,mt*5+3,none⟩=some (.slice C0 cl.length Dl):=(vZ.o.cell (p:=⟨g,mt*5+3,none⟩) hgq).trans y3
        have x4:(wq.alloc (.cells #[] 86)).cell? ⟨g,mt*5+4,none⟩=some (.int .i64 ca):=(vZ.o.cell (p:=⟨g,mt*5+4,none⟩) hgq).trans y4
        have HWS:=ae hws
        go_upto_region 13 with (fail)
        rw[←ZP.o]
        clear TC hcell MJ
        have oU:Hid (∀ w',Below wq.heap.size wq w'→w'.cell? ⟨g,m1*5+3,none⟩=some (.slice A0 n0 c0)∧w'.cell? ⟨g,mt*5,none⟩=some (.int .i64 ck)∧w'.cell? ⟨g,mt*5+1,none⟩=some (.string cs)∧w'.cell? ⟨g,mt*5+2,none⟩=some (.int .i64 cn)∧w'.cell? ⟨g,mt*5+3,none⟩=some (.slice C0 cl.length Dl)∧w'.cell? ⟨g,mt*5+4,none⟩=some (.int .i64 ca)):=ae (fun w' hb=>⟨(hb.cell (p:=⟨g,m1*5+3,none⟩) hgq).trans hcq,(hb.cell (p:=⟨g,mt*5,none⟩) hgq).trans y0,(hb.cell (p:=⟨g,mt*5+1,none⟩) hgq).trans y1,(hb.cell (p:=⟨g,mt*5+2,none⟩) hgq).trans y2,(hb.cell (p:=⟨g,mt*5+3,none⟩) hgq).trans y3,(hb.cell (p:=⟨g,mt*5+4,none⟩) hgq).trans y4⟩)
        refine dK.iP (fun w'=>w'.cell? ⟨g,m1*5+3,none⟩=some (.slice A0 n0 c0)∧w'.cell? ⟨g,mt*5,none⟩=some (.int .i64 ck)∧w'.cell? ⟨g,mt*5+1,none⟩=some (.string cs)∧w'.cell? ⟨g,mt*5+2,none⟩=some (.int .i64 cn)∧w'.cell? ⟨g,mt*5+3,none⟩=some (.slice C0 cl.length Dl)∧w'.cell? ⟨g,mt*5+4,none⟩=some (.int .i64 ca)) 19 (by kernel_rfl) (oU.o _ (aG _ _).drew) (fun hHeld=>?_)
        refine dK.RH (i:=0) (C:=[0,17,18,19]) (v:=?amd) rfl (by kernel_rfl) aA (bD ⟨by rfl,?aca⟩) ‹_› ?_
        case aca=>(intro w1 hSw;(try dsimp only at hSw);go_simp;try with_reducible rfl)
        simp only[ah,ai,Act.put,au,ay,az]
        refine dK.RH (i:=1) (C:=[1,2,17,18,19]) (v:=?ame) rfl (by kernel_rfl) aA (bD ⟨by rfl,?acb⟩) ‹_› ?_
        case acb=>(intro w1 hSw;(try dsimp only at hSw);go_simp;try with_reducible rfl)
        simp only[ah,aj,ai,Act.put,au,ay,az]
        refine dK.RH (i:=2) (C:=[2,17,18,19]) (v:=?amf) rfl (by kernel_rfl) aA (bD ⟨by rfl,?acd⟩) ‹_› ?_
        case acd=>(intro w1 hSw;(try dsimp only at hSw);go_simp;try with_reducible rfl)
        simp only[ah,aj,ai,Act.put,au,ay,az]
        refine dK.RH (i:=4) (C:=[4,7,8,9,10,16,19]) (v:=?amg) rfl (by kernel_rfl) aA (bD ⟨by rfl,?ace⟩) ‹_› ?_
        case ace=>(intro w1 hSw;(try dsimp only at hSw);go_simp;try with_reducible rfl)
        simp only[ah,aj,ai,Act.put,au,ay,az]
        refine dK.RH (i:=5) (C:=[5,6,7,8,9,10,16,19]) (v:=?amh) rfl (by kernel_rfl) aA (bD ⟨by rfl,?acf⟩) ‹_› ?_
        case acf=>(intro w1 hSw;(try dsimp only at hSw);go_simp;try with_reducible rfl)
        simp only[ah,aj,ai,Act.put,au,ay,az]
        refine dK.RH (i:=6) (C:=[6,7,8,9,10,16,19]) (v:=?ami) rfl (by kernel_rfl) aA (bD ⟨by rfl,?acg⟩) ‹_› ?_
        case acg=>(intro w1 hSw;(try dsimp only at hSw);go_simp;try with_reducible rfl)
        simp only[ah,aj,ai,Act.put,au,ay,az]
        refine dK.RH (i:=7) (C:=[7,8,9,10,16,19]) (v:=?amj) rfl (by kernel_rfl) aA (bD ⟨by rfl,?ach⟩) ‹_› ?_
        case ach=>(intro w1 hSw;(try dsimp only at hSw);go_simp;try with_reducible rfl)
        simp only[ah,aj,ai,Act.put,au,ay,az]
        refine dK.RH (i:=8) (C:=[8,9,10,16,19]) (v:=?amk) rfl (by kernel_rfl) aA (bD ⟨by rfl,?aci⟩) ‹_› ?_
        case aci=>(intro w1 hSw;(try dsimp only at hSw);go_simp;try with_reducible rfl)
        simp only[ah,aj,ai,Act.put,au,ay,az]
        refine dK.RH (i:=9) (C:=[9,10,16,19]) (v:=?aml) rfl (by kernel_rfl) aA (bD ⟨by rfl,?acj⟩) ‹_› ?_
        case acj=>(intro w1 hSw;(try dsimp only at hSw);go_simp;try with_reducible rfl)
        simp only[ah,aj,ai,Act.put,au,ay,az]
        refine dK.RH (i:=11) (C:=[11,13,14,15,16,19]) (v:=?aiX) rfl (by kernel_rfl) aA (bD ⟨by rfl,?Y2⟩) ‹_› ?_
        case Y2=>(intro w1 hSw;(try dsimp only at hSw);go_simp;try with_reducible rfl)
        simp only[ah,aj,ai,Act.put,au,ay,az]
        refine dK.RH (i:=12) (C:=[12,13,14,15,16,19]) (v:=?aiY) rfl (by kernel_rfl) aA (bD ⟨by rfl,?Y3⟩) ‹_› ?_
        case Y3=>(intro w1 hSw;(try dsimp only at hSw);go_simp;try with_reducible rfl)
        simp only[ah,aj,ai,Act.put,au,ay,az]
        refine dK.RH (i:=13) (C:=[13,14,15,16,19]) (v:=?aiZ) rfl (by kernel_rfl) aA (bD ⟨by rfl,?Y4⟩) ‹_› ?_
        case Y4=>(intro w1 hSw;(try dsimp only at hSw);go_simp;try with_reducible rfl)
        simp only[ah,aj,ai,Act.put,au,ay,az]
        refine dK.RH (i:=14) (C:=[14,15,16,19]) (v:=?ai0) rfl (by kernel_rfl) aA (bD ⟨by rfl,?Y5⟩) ‹_› ?_
        case Y5=>(intro w1 hSw;(try dsimp only at hSw);go_simp;try with_reducible rfl)
        simp only[ah,aj,ai,Act.put,au,ay,az]
        refine dK.dM (rs:=[3,15]) (by kernel_rfl) (by simp) ?_
        refine dK.dJ.cons rfl (fun K hK=>?_) (dK.dJ.cons rfl (fun K hK=>?_) dK.dJ.nil)
        refine qZ _ rfl rfl ?_
        refine hK.o _ _ (oU.o _ vZ.o) (fun hHeld=>?_)
        clear hK K
        simp only[ah,aj,ai,Act.put,au,ay,az,World.size_alloc,World.size_drew]
        refine dK.dM (rs:=[10,15]) (by kernel_rfl) (by simp) ?_
        refine dK.dJ.cons rfl (fun K hK=>?_) (dK.dJ.cons rfl (fun K hK=>?_) dK.dJ.nil)
        refine fG _ rfl _ _ 84 rfl wq.heap.size 86 i0 _ 5 64 Tryz.underlying84 hi hz0 hz1 hz2 rfl (by decide) _ _ _ rfl hE1.o wr.heap.size A0 n0 c0 (ed qs) rfl hR1.o (fF _) ?a1 ?a2 ?a3 ?_
        case a1=>(unfold maxLen;omega)
        case a2=>omega
        case a3=>(first|omega|(simp;done)|(simp;omega))
        intro v5 w5 hown5 fJ jP
        have jq:Hid (w5.ownsRow wq.heap.size 86 5 v5 n0 (ed qs)):=ae (by rw[Nat.zero_add,List.nil_append] at hown5;exact hown5)
        have jA:Hid (Below wq.heap.size wq w5):=ae (vZ.o.grown fJ vZ.o.size (fun k e=>by have he:wq.heap.size+0=k:=aY e;omega))
        have hs5:=jA.o.size
        clear hown5 fJ jP
        refine hK.o _ _ (oU.o _ jA.o) (fun hHeld=>?_)
        clear hK K
        simp only[ah,aj,ai,Act.put,au,ay,az]
        refine dK.dM (rs:=[15]) (by kernel_rfl) (by simp) ?_
        refine dK.dJ.cons rfl (fun K hK=>?_) dK.dJ.nil
        refine kR _ rfl 57 rfl ck cn ca cs C0 cl.length Dl rfl ?_
        refine hK.o _ _ (oU.o _ (jA.o.alloc hs5 _)) (fun hHeld=>?_)
        clear hK K
        simp only[ah,aj,ai,Act.put,au,ay,az,World.size_alloc,World.size_drew]
        refine dK.dM (rs:=[16]) (by kernel_rfl) (by simp) ?_
        refine dK.dJ.cons rfl (fun K hK=>?_) dK.dJ.nil
        refine fG _ rfl _ _ 84 rfl wq.heap.size 86 i0 _ 5 64 Tryz.underlying84 hi hz0 hz1 hz2 rfl (by decide) _ _ _ rfl (jq.o.alloc _) (w5.heap.size+1) _ _ _ (TP.cs ((.mk ck cs cn cl ca:T),C0,Dl)) rfl ⟨rfl,fun _=>⟨_,rfl,Nat.lt_succ_self _,bz (aH w5 _)⟩⟩ ?b1 ?b2 ?b3 ?b4 ?_
        case b1=>(rw[←fB];exact fF _)
        case b2=>(unfold maxLen;omega)
        case b3=>omega
        case b4=>(first|omega|(simp;done)|(simp;omega))
        intro v6 w6 hown6 hgrow6 zO
        obtain⟨g6,cap6,rfl,TD,TE⟩:=hown6.form (Nat.succ_pos _)
        have qR:=ae hown6
        have kD:Hid (Below wq.heap.size wq w6):=ae ((jA.o.alloc hs5 _).grown hgrow6 (jA.o.alloc hs5 _).size (fun k e=>(jq.o.lt k e).1))
        have hc6:w6.cell? ⟨g,m1*5+3,none⟩=some (.slice A0 n0 c0):=(kD.o.cell (p:=⟨g,m1*5+3,none⟩) hgq).trans hcq
        have Td:w6.frozen? ⟨g,m1*5+3,none⟩=false:=(kD.o.frozen (p:=⟨g,m1*5+3,none⟩) hgq).trans hfq
        clear hown6 hgrow6 zO
        refine hK.o _ _ (oU.o _ kD.o) (fun hHeld=>?_)
        clear hK K
        simp only[ah,aj,ai,Act.put,au,ay,az]
        refine dK.RH (i:=17) (C:=[17,18,19]) (v:=?ai1) rfl (by kernel_rfl) aA (bD ⟨by rfl,?Y6⟩) ‹_› ?_
        case Y6=>(intro w1 hSw;(try dsimp only at hSw);go_simp;try with_reducible rfl)
        simp only[ah,aj,ai,Act.put,au,ay,az]
        refine dK.RH (i:=18) (C:=[18,19]) (v:=?ai2) rfl (by kernel_rfl) aA (bD ⟨by rfl,?Y7⟩) ‹_› ?_
        case Y7=>(intro w1 hSw;(try dsimp only at hSw);go_simp;try with_reducible rfl)
        simp only[ah,aj,ai,Act.put,au,ay,az]
        refine dK.dM (rs:=[19]) (by kernel_rfl) (by simp) ?_
        refine dK.dJ.last rfl (fun K hK=>?_)
        simp only[ah,aj,ai]
        go_simp
        refine hK.o _ _ ?_
        clear hK K
        refine dK.gW (by kernel_rfl) ?_ _
        rotate_left
        refine kR _ rfl 57 rfl ck cn ca cs C0 cl.length Dl rfl ?_
        refine hK.o _ _ (oU.o _ EX.o) (fun hHeld=>?_)
        clear hK K
        simp only[ah,aj,ai,Act.put,au,ay,az,World.size_alloc,World.size_drew]
        refine dK.dM (rs:=[10]) (by kernel_rfl) (by simp) ?_
        refine dK.dJ.cons rfl (fun K hK=>?_) dK.dJ.nil
        refine fG _ rfl _ _ 84 rfl wq.heap.size 86 i0 _ 5 64 Tryz.underlying84 hi hz0 hz1 hz2 rfl (by decide) _ _ _ rfl hE2.o wr.heap.size A0 n0 c0 (ed qs) rfl hR2.o (fF _) ?a1 ?a2 ?a3 ?_
        case a1=>(unfold maxLen;omega)
        case a2=>omega
        case a3=>(first|omega|(simp;done)|(simp;omega))
        intro v5 w5 hown5 fJ jP
        have jq:Hid (w5.ownsRow wq.heap.size 86 5 v5 n0 (ed qs)):=ae (by rw[Nat.zero_add,List.nil_append] at hown5;exact hown5)
        have jA:Hid (Below wq.heap.size wq w5):=ae (EX.o.grown fJ EX.o.size (fun k e=>by have he:wq.heap.size+0=k:=aY e;omega))
        have hs5:=jA.o.size
        have uC:=ae ((fJ.block (wq.heap.size+1) (by first|omega|(simp;done)|(simp;omega)) (fun e=>by have he:wq.heap.size+1=wq.heap.size:=aY e;omega)).trans hX2.o)
        clear hown5 fJ jP
        refine hK.o _ _ (oU.o _ jA.o) (fun hHeld=>?_)
        clear hK K
        simp only[ah,aj,ai,Act.put,au,ay,az]
        refine dK.dM (rs:=[16]) (by kernel_rfl) (by simp) ?_
        refine dK.dJ.cons rfl (fun K hK=>?_) dK.dJ.nil
        refine fG _ rfl _ _ 84 rfl wq.heap.size 86 i0 _ 5 64 Tryz.underlying84 hi hz0 hz1 hz2 rfl (by decide) _ _ _ rfl jq.o (wq.heap.size+1+1) _ _ _ (TP.cs ((.mk ck cs cn cl ca:T),C0,Dl)) rfl ⟨rfl,fun _=>⟨_,rfl,Nat.lt_succ_self _,bz uC.o⟩⟩ ?b1 ?b2 ?b3 ?b4 ?_
        case b1=>(rw[←fB];exact fF _)
        case b2=>(unfold maxLen;omega)
        case b3=>omega
        case b4=>(first|omega|(simp;done)|(simp;omega))
        intro v6 w6 hown6 hgrow6 zO
        obtain⟨g6,cap6,rfl,TD,TE⟩:=hown6.form (Nat.succ_pos _)
        have qR:=ae hown6
        have kD:Hid (Below wq.heap.size wq w6):=ae (jA.o.grown hgrow6 jA.o.size (fun k e=>(jq.o.lt k e).1))
        have hc6:w6.cell? ⟨g,m1*5+3,none⟩=some (.slice A0 n0 c0):=(kD.o.cell (p:=⟨g,m1*5+3,none⟩) hgq).trans hcq
        have Td:w6.frozen? ⟨g,m1*5+3,none⟩=false:=(kD.o.frozen (p:=⟨g,m1*5+3,none⟩) hgq).trans hfq
        clear hown6 hgrow6 zO
        refine hK.o _ _ (oU.o _ kD.o) (fun hHeld=>?_)
        clear hK K
        simp only[ah,aj,ai,Act.put,au,ay,az]
        refine dK.RH (i:=17) (C:=[17,18,19]) (v:=?ai3) rfl (by kernel_rfl) aA (bD ⟨by rfl,?Y8⟩) ‹_› ?_
        case Y8=>(intro w1 hSw;(try dsimp only at hSw);go_simp;try with_reducible rfl)
        simp only[ah,aj,ai,Act.put,au,ay,az]
        refine dK.RH (i:=18) (C:=[18,19]) (v:=?ai4) rfl (by kernel_rfl) aA (bD ⟨by rfl,?Y9⟩) ‹_› ?_
        case Y9=>(intro w1 hSw;(try dsimp only at hSw);go_simp;try with_reducible rfl)
        simp only[ah,aj,ai,Act.put,au,ay,az]
        refine dK.dM (rs:=[19]) (by kernel_rfl) (by simp) ?_
        refine dK.dJ.last rfl (fun K hK=>?_)
        simp only[ah,aj,ai]
        go_simp
        refine hK.o _ _ ?_
        clear hK K
        refine dK.gW (by kernel_rfl) ?_ _
        rotate_left
        refine kR _ rfl 57 rfl ck cn ca cs C0 cl.length Dl rfl ?_
        refine hK.o _ _ (oU.o _ (((aG wq.heap.size wq).alloc (aF _) _).drew)) (fun hHeld=>?_)
        clear hK K
        simp only[ah,aj,ai,Act.put,au,ay,az,World.size_alloc,World.size_drew]
        refine dK.dM (rs:=[3]) (by kernel_rfl) (by simp) ?_
        refine dK.dJ.cons rfl (fun K hK=>?_) dK.dJ.nil
        refine qZ _ rfl rfl ?_
        refine hK.o _ _ (oU.o _ EY.o) (fun hHeld=>?_)
        clear hK K
        simp only[ah,aj,ai,Act.put,au,ay,az,World.size_alloc,World.size_drew]
        refine dK.dM (rs:=[10]) (by kernel_rfl) (by simp) ?_
        refine dK.dJ.cons rfl (fun K hK=>?_) dK.dJ.nil
        refine fG _ rfl _ _ 84 rfl wq.heap.size 86 i0 _ 5 64 Tryz.underlying84 hi hz0 hz1 hz2 rfl (by decide) _ _ _ rfl Xw.o wr.heap.size A0 n0 c0 (ed qs) rfl Xv.o (fF _) ?a1 ?a2 ?a3 ?_
        case a1=>(unfold maxLen;omega)
        case a2=>omega
        case a3=>(first|omega|(simp;done)|(simp;omega))
        intro v5 w5 hown5 fJ jP
        have jq:Hid (w5.ownsRow wq.heap.size 86 5 v5 n0 (ed qs)):=ae (by rw[Nat.zero_add,List.nil_append] at hown5;exact hown5)
        have jA:Hid (Below wq.heap.size wq w5):=ae (EY.o.grown fJ EY.o.size (fun k e=>by have he:wq.heap.size+1=k:=aY e;omega))
        have hs5:=jA.o.size
        have uC:=ae ((fJ.block wq.heap.size (by first|omega|(simp;done)|(simp;omega)) (fun e=>by have he:wq.heap.size=wq.heap.size+1:=aY e;omega)).trans hX3.o)
        clear hown5 fJ jP
        refine hK.o _ _ (oU.o _ jA.o) (fun hHeld=>?_)
        clear hK K
        simp only[ah,aj,ai,Act.put,au,ay,az]
        refine dK.dM (rs:=[16]) (by kernel_rfl) (by simp) ?_
        refine dK.dJ.cons rfl (fun K hK=>?_) dK.dJ.nil
        refine fG _ rfl _ _ 84 rfl wq.heap.size 86 i0 _ 5 64 Tryz.underlying84 hi hz0 hz1 hz2 rfl (by decide) _ _ _ rfl jq.o (wq.heap.size+1) _ _ _ (TP.cs ((.mk ck cs cn cl ca:T),C0,Dl)) rfl ⟨rfl,fun _=>⟨_,rfl,Nat.lt_succ_self _,bz uC.o⟩⟩ ?b1 ?b2 ?b3 ?b4 ?_
        case b1=>(rw[←fB];exact fF _)
        case b2=>(unfold maxLen;omega)
        case b3=>omega
        case b4=>(first|omega|(simp;done)|(simp;omega))
        intro v6 w6 hown6 hgrow6 zO
        obtain⟨g6,cap6,rfl,TD,TE⟩:=hown6.form (Nat.succ_pos _)
        have qR:=ae hown6
        have kD:Hid (Below wq.heap.size wq w6):=ae (jA.o.grown hgrow6 jA.o.size (fun k e=>(jq.o.lt k e).1))
        have hc6:w6.cell? ⟨g,m1*5+3,none⟩=some (.slice A0 n0 c0):=(kD.o.cell (p:=⟨g,m1*5+3,none⟩) hgq).trans hcq
        have Td:w6.frozen? ⟨g,m1*5+3,none⟩=false:=(kD.o.frozen (p:=⟨g,m1*5+3,none⟩) hgq).trans hfq
        clear hown6 hgrow6 zO
        refine hK.o _ _ (oU.o _ kD.o) (fun hHeld=>?_)
        clear hK K
        simp only[ah,aj,ai,Act.put,au,ay,az]
        refine dK.RH (i:=17) (C:=[17,18,19]) (v:=?ai5) rfl (by kernel_rfl) aA (bD ⟨by rfl,?Za⟩) ‹_› ?_
        case Za=>(intro w1 hSw;(try dsimp only at hSw);go_simp;try with_reducible rfl)
        simp only[ah,aj,ai,Act.put,au,ay,az]
        refine dK.RH (i:=18) (C:=[18,19]) (v:=?ai6) rfl (by kernel_rfl) aA (bD ⟨by rfl,?Zb⟩) ‹_› ?_
        case Zb=>(intro w1 hSw;(try dsimp only at hSw);go_simp;try with_reducible rfl)
        simp only[ah,aj,ai,Act.put,au,ay,az]
        refine dK.dM (rs:=[19]) (by kernel_rfl) (by simp) ?_
        refine dK.dJ.last rfl (fun K hK=>?_)
        simp only[ah,aj,ai]
        go_simp
        refine hK.o _ _ ?_
        clear hK K
        refine dK.gW (by kernel_rfl) ?_ _
        rotate_left
        all_goals
         go_wp2_with fail
         go_roundw
         case measure=>simp[intOf];omega
         case rel =>
          obtain⟨r1,r2⟩:=Ig (x:=((.mk ck cs cn cl ca:T),C0,Dl)) (n1:=n0+1) (m1:=m1) (i2:=j+1) HO.o lV.o FT.o hxk.o (uI.o.trans (kD.o.mono uI.o.size)) HQ.o.1 HQ.o.2.2 (HCK.o.1.good (by omega)) HCK.o.2 qR.o uI.o.size (by rw[htn]) (by omega) (by omega) (by omega) hs1
          refine⟨j+1,mt,g,cap,_,by omega,by go_num,rfl,by have:=HM1.o;omega,by omega,?_,J5 r1 (by rw[List.length_set];exact lV.o) (bV l2),ae (fun p hp=>r2 p (List.mem_of_mem_take hp)),(HB.o.trans ((uI.o.trans (kD.o.mono uI.o.size)).mono hs1)).setCell (p:=⟨g,m1*5+3,none⟩) abW _,ae ((hdp.o.kid FT.o ((hdp.o.top HPC.o).mono (by have:=HM1.o;omega))).take mt),ae (hex.o.close hlt (by rw[hcc];exact h32) (by rw[hcc];exact h10) (by rw[hcc];exact Oj) lV.o HM1.o FT.o HPC.o)⟩
          rw[List.length_take,List.length_set,lV.o]
          omega
       ·as_aux_lemma =>
        obtain⟨⟨k0,k1,k2,k3,k4⟩,f0,f1,f2,f3,f4⟩:=dN hBw.o
        go_wp2_with fail
        refine aJ (iQ rfl rfl rfl rfl (dR hBw.o)) rfl ?_
        exact⟨jE (hex.o.Wu hlt (by rw[hcc];exact h32) (by rw[hcc];exact h10) (by rw[hcc];exact Oj) lV.o (by have:=hm0;simp at this;omega)) _ _ _ _,dS (HB1.o.trans (HB.o.mono (by omega))) (aF _)⟩
     ·go_wp2_with fail
      go_roundw
      case rel=>exact⟨j+1,m,g,cap,ps,by omega,by go_num,rfl,hm1,hm2,lV.o,HO.o,ae (fun p hp=>⟨(hxk.o p hp).1.more (aW _),(hxk.o p hp).2⟩),HB.o,hdp,ae (hex.o.aiP hlt (by rw[hcc];exact h32) (by rw[hcc];exact h10))⟩
      case measure=>simp[intOf];omega
    ·go_wp2_with fail
     go_roundw
     case rel=>exact⟨j+1,m,g,cap,ps,by omega,by go_num,rfl,hm1,hm2,lV.o,HO.o,ae (fun p hp=>⟨(hxk.o p hp).1.more (aW _),(hxk.o p hp).2⟩),HB.o,hdp,ae (hex.o.aiO hlt (by rw[hcc];exact h32))⟩
     case measure=>simp[intOf];omega
   ·cases MI:decide (1<(m:Int))
    ·as_aux_lemma =>
     obtain rfl:m=1:=by simp at MI;omega
     obtain⟨p0,hp0⟩:∃ p0,ps[0]?=some p0:=⟨_,aO (by rw[lV.o];decide)⟩
     obtain⟨_,_,_,c3,_,_⟩:=mG HO.o lV.o hp0
     obtain⟨ho0,hc0,hx0⟩:=hxk.o p0 (aN hp0)
     have hd0:=hdp.o 0 p0 hp0
     have HP0:=ae hp0
     clear hp0
     obtain⟨⟨tk,ts,tn,tl,ta⟩,A0,c0⟩:=p0
     simp only[T.kids] at c3 hx0 hc0
     cases tl with
     | nil =>
       simp only[List.length_nil] at c3
       obtain⟨⟨k0,k1,k2,k3,k4⟩,f0,f1,f2,f3,f4⟩:=dN hBw.o
       go_wp2_with fail
       refine aJ (iQ rfl rfl rfl rfl (dR hBw.o)) rfl ?_
       exact⟨jE (hex.o.YV hlt lV.o HP0.o) _ _ _ _,dS (HB1.o.trans (HB.o.mono (by omega))) (aF _)⟩
     | cons x tl =>
       obtain⟨b,o,A',c',rfl,hSb,x0,x1,x2,x3,x4,hcx,hxx⟩:=hx0.gy (i:=0) (e:=x) rfl
       have hgx:x.Good:=ho0.2.2.2.2 x bH
       obtain⟨n0,hn0⟩:∃ n0,(x::tl).length=n0+1:=⟨tl.length,rfl⟩
       rw[hn0] at c3
       have hn1:(((n0+1:Nat):Int)==0)=false:=by simp;omega
       have hHX:=ae hxx
       have hGX:=ae (bU hgx (hd0 x bH))
       clear hx0 ho0 hc0 hn0 hxx hgx hd0
       obtain⟨xk,xs,xn,xl,xa⟩:=x
       simp only[T.k,T.s,T.n,T.kids,T.at_,Nat.zero_mul,Nat.add_zero] at x0 x1 x2 x3 x4 hcx hHX
       generalize hxm:xl.length=xm at *
       obtain⟨⟨k0,k1,k2,k3,k4⟩,f0,f1,f2,f3,f4⟩:=dN hBw.o
       go_wp2_with fail
       refine aJ (iQ rfl rfl rfl rfl (dR hBw.o)) rfl ?_
       refine⟨⟨.mk xk xs xn xl xa,A',c',0,0,by simp only[T.val,T.k,T.s,T.n,T.kids,T.at_,hxm];rfl,hGX.o,by simp only[T.kids,hxm];exact hcx,?_,fun r hr=>⟨rfl,hex.o.end_ hlt lV.o HP0.o r hr⟩⟩,dS (HB1.o.trans (HB.o.mono (by omega))) (aF _)⟩
       exact (hHX.o.kept fun k hk=>nS (by have:=hk.1;omega)).mono fun k hk=>⟨by have:=hk.1;omega,aQ hk.2.1 rQ.symm⟩
    ·as_aux_lemma =>
     obtain⟨⟨k0,k1,k2,k3,k4⟩,f0,f1,f2,f3,f4⟩:=dN hBw.o
     go_wp2_with fail
     refine aJ (iQ rfl rfl rfl rfl (dR hBw.o)) rfl ?_
     exact⟨jE (hex.o.YW hlt (by rw[lV.o];have:=MI;simp at this;omega)) _ _ _ _,dS (HB1.o.trans (HB.o.mono (by omega))) (aF _)⟩
 ·as_aux_lemma =>
  clear dZ hb1
  go_enter Tryz.func39,Tryz.ntmps39
  go_upto_region 1 with (fail)
  rw[←HW1.o]
  obtain⟨⟨k0,k1,k2,k3,k4⟩,f0,f1,f2,f3,f4⟩:=dN hB.o
  go_wp2_with fail
  refine aJ (iQ rfl rfl rfl rfl (dR hB.o)) rfl ?_
  exact⟨jE (TB.long (by simp at Ti;omega)) _ _ _ _,dS HB1.o (aF _)⟩
end Go.Proofs.YtjhkihkiebnpaaaGreatDoor
