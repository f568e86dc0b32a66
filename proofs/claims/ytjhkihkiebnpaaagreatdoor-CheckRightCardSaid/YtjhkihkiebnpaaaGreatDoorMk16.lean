/-
  The reference's reader of brackets: it ends with a refusal, or with some tree in new memory.
-/
import Derived.Test.YtjhkihkiebnpaaaGreatDoorMk15
import Derived.Test.YtjhkihkiebnpaaaGreatDoorMk11
set_option linter.unusedVariables false
set_option linter.unusedSimpArgs false
set_option maxRecDepth 100000
set_option maxHeartbeats 40000000
namespace Go.Proofs.YtjhkihkiebnpaaaGreatDoor
open Go.RowKit
theorem NP (s:ByteArray)(w:World):Calls Tryz.prog 39 #[.string s] w fun e w'=>J4 s w e w'∧Below w.heap.size w w':=by
 obtain ⟨w1,aK⟩:∃ w1,w1=w.alloc (.cells #[.int .i64 0,.string ⟨#[]⟩,.int .i64 0,.slice none 0 0,.int .i64 0] 86):=⟨_,rfl⟩
 have hb1:Below w.heap.size w w1:=by rw [aK];exact (anl _ _).alloc (ank _) _
 have hws:w1.heap.size=w.heap.size+1:=by rw [aK];simp
 have hB:Hid (w1.heap[w.heap.size]?=some (.cells #[.int .i64 0,.string ⟨#[]⟩,.int .i64 0,.slice none 0 0,.int .i64 0] 86 (0,0))):=anc (by rw [aK];exact anm w _)
 have HB1:=anc hb1
 have HW1:=anc aK
 cases QN:decide (600<(s.size:Int))
 ·have hs:s.size≤600:=by simp at QN;omega
  have hl0:=anc (fun c w=>xZ c w)
  have hd0:=anc (fun c w=>sG c w)
  have hf0:=anc (fun p hp w=>TV s p hp hs w)
  have HO0:Hid ((w1.alloc (.cells #[.int .i64 0,.string ⟨#[]⟩,.int .i64 0,.slice none 0 0,.int .i64 0] 86)).ownsRow w1.heap.size 86 5 (.slice (some ⟨w1.heap.size,0,none⟩) 1 1) 1 (aO [(jB,none,0)])) :=
   anc ⟨rfl,.inr ⟨w1.heap.size,1,_,rfl,ank _,anm w1 _,ank _,by decide,rfl,rfl⟩⟩
  have HB0:Hid (Below w1.heap.size w1 (w1.alloc (.cells #[.int .i64 0,.string ⟨#[]⟩,.int .i64 0,.slice none 0 0,.int .i64 0] 86))):=anc ((anl _ _).alloc (ank _) _)
  obtain ⟨i0,hi,hz0,hz1,hz2⟩:=info_parts MK
  clear aK hb1
  go_enter Tryz.func39,Tryz.ntmps39
  go_upto_region 1 with (fail)
  rw [←HW1.out]
  go_upto_region 4 with (fail)
  go_wp2_with fail
  go_loopw [5,6] (fun v i wr=>∃ (j m g cap:Nat)(ps:List TP),j≤s.size∧i=.int .i64 j∧v=.slice (some ⟨g,0,none⟩) m cap∧1≤m∧m≤13∧ps.length=m∧wr.ownsRow w1.heap.size 86 5 v m (aO ps) ∧
   Hid (∀ p∈ps,p.1.Open j∧p.1.kids.length≤p.2.2∧ku wr (fun k=>w1.heap.size≤k∧k<wr.heap.size∧k≠g) p.2.1 p.1.kids)∧Below w1.heap.size w1 wr∧Hid (jX ps)∧Hid (oN s j ps)) (fun _ i _=>s.size-(intOf i).toNat)
  case atStart=>exact ⟨0,1,w1.heap.size,1,[(jB,none,0)],Nat.zero_le _,rfl,by rw [hws],ank _,by decide,rfl,by rw [←hws];exact HO0.out,anc (fun p hp=>by obtain rfl:p=(jB,none,0):=(by simpa using hp);exact ⟨CS 0,ank _,.nil _⟩),HB0.out,anc jX.one,anc (oN.start hs)⟩
  case round =>
   obtain ⟨j,m,g,cap,ps,hj,rfl,rfl,hm1,hm2,hpl,hown,hxk,hb,hdp,hex⟩:=hrel
   have HO:=anc hown
   have HB:=anc hb
   have jI:=anc hpl
   have hs1:=hb.size
   have hBw:Hid (wr.heap[w.heap.size]?=some (.cells #[.int .i64 0,.string ⟨#[]⟩,.int .i64 0,.slice none 0 0,.int .i64 0] 86 (0,0))):=anc ((hb.block _ (by omega)).trans hB.out)
   clear hown hb hpl
   by_cases hlt:j<s.size
   ·have hdj:decide (s.size≤j)=false:=by simp;omega
    obtain ⟨cc,hcc⟩:∃ cc:Int,(s[j].toNat:Int)=cc:=⟨_,rfl⟩
    cases h32:(cc==32)
    ·cases h10:(cc==10)
     ·cases KI:(cc==41)
      ·
       have HNC:Hid (NC s j hlt):=anc ⟨by rw [hcc];exact h32,by rw [hcc];exact h10,by rw [hcc];exact KI⟩
       have hLj:Hid (∀ w,Calls Tryz.prog 78 #[.int .u8 cc] w fun e w'=>e=.returned (.bool (nI s[j]))∧w=w'):=anc (fun w=>by rw [←hcc];exact hl0.out _ w)
       have hDj:Hid (∀ w,Calls Tryz.prog 79 #[.int .u8 cc] w fun e w'=>e=.returned (.bool (AQ s[j]))∧w=w'):=anc (fun w=>by rw [←hcc];exact hd0.out _ w)
       have hbad:∀ (xK:(cc==40)=false)(qR:(cc==34)=false)(h45:(cc==45)=false)(hl:nI s[j]=false)(hd:AQ s[j]=false),True:=fun _ _ _ _ _=>trivial
       by_cases hok:(cc==40)=true∨(cc==34)=true∨(cc==45)=true∨nI s[j]=true∨AQ s[j]=true
       ·clear hbad
        go_upto_region 16 with (fail)
        go_cut [86] from 67 to 86 (fun r wx=>r=.bool false∧wx=wr)
        case first =>
         cases xK:(cc==40)
         ·as_aux_lemma =>
          have adG:(cc != 40)=true:=by simp [bne,xK]
          cases qR:(cc==34)
          ·have WH:(cc != 34)=true:=by simp [bne,qR]
           cases h45:(cc==45)
           ·have adH:(cc != 45)=true:=by simp [bne,h45]
            cases hlb:nI s[j]
            ·rw [hlb] at hLj
             have JR:AQ s[j]=true:=by simpa [xK,qR,h45,hlb] using hok
             rw [JR] at hDj
             clear hok
             go_wp2_with fail
             refine (hLj.out _).mono ?_
             rintro e w' ⟨rfl,rfl⟩
             go_wp2_with fail
             refine (hDj.out _).mono ?_
             rintro e w' ⟨rfl,rfl⟩
             go_wp2_with fail
             go_meet
             exact ⟨rfl,rfl⟩
            ·rw [hlb] at hLj
             clear hok
             go_wp2_with fail
             refine (hLj.out _).mono ?_
             rintro e w' ⟨rfl,rfl⟩
             go_wp2_with fail
             go_meet
             exact ⟨rfl,rfl⟩
           ·have adH:(cc != 45)=false:=by simp [bne,h45]
            clear hok
            go_wp2_with fail
            go_meet
            exact ⟨rfl,rfl⟩
          ·have WH:(cc != 34)=false:=by simp [bne,qR]
           clear hok
           go_wp2_with fail
           go_meet
           exact ⟨rfl,rfl⟩
         ·as_aux_lemma =>
          have adG:(cc != 40)=false:=by simp [bne,xK]
          clear hok
          go_wp2_with fail
          go_meet
          exact ⟨rfl,rfl⟩
        case rest =>
         obtain ⟨rfl,hwc⟩:=hcut
         obtain rfl:wr=wc:=hwc.symm
         clear hwc hok
         obtain ⟨p0,hp0⟩:∃ p0,ps[0]?=some p0:=⟨_,anr (by rw [jI.out];omega)⟩
         have hz3:wr.cell? ⟨g,3,none⟩=some (.slice p0.2.1 p0.1.kids.length p0.2.2):=by simpa using (jW HO.out jI.out hp0).2.2.2.1
         have HT0:=anc (U7 jI.out hp0)
         clear hp0
         generalize p0.1.kids.length=n0 at *
         go_upto_region 18 with (fail)
         go_cut [98] from 89 to 98 (fun r wx=>r=.bool (yz (ps.map Prod.fst))∧wx=wr)
         case first =>
          cases hm0:((m:Int)-1==0)
          ·go_wp2_with fail
           go_meet
           exact ⟨by rw [HT0.out];have h1:¬m=1:=(by have:=hm0;simp at this;omega);simp [h1],rfl⟩
          ·go_wp2_with fail
           go_meet
           exact ⟨by rw [HT0.out];have h1:m=1:=(by have:=hm0;simp at this;omega);simp [h1],rfl⟩
         case rest =>
          obtain ⟨rfl,hwc⟩:=hcut
          obtain rfl:wr=wc:=hwc.symm
          obtain ⟨bt,hbt⟩:∃ bt,bt=yz (ps.map Prod.fst):=⟨_,rfl⟩
          rw [←hbt]
          have ny:=anc hbt
          clear hwc hz3 p0 hbt HT0
          cases bt
          ·cases xK:(cc==40)
           ·as_aux_lemma =>
            have hlf:=anc (hf0.out j hlt wr)
            obtain ⟨m1,J5⟩:∃ m1,m=m1+1:=⟨m-1,by omega⟩
            have e0:(m:Int)-1=(m1:Int):=by omega
            have l1:m1<m:=by omega
            obtain ⟨pt,hpt⟩:∃ pt,ps[m1]?=some pt:=⟨_,anr (by rw [jI.out];exact l1)⟩
            have DX:=anc hpt
            have HM1:=anc J5
            have hcell:=(jW HO.out jI.out hpt).2.2.2.1
            have J6:=(jW HO.out jI.out hpt).2.2.2.2.2
            have DW:=anc (hxk.out pt (anq hpt))
            have Qk:g<wr.heap.size:=((HO.out).lt g rfl).2
            have aaD:w1.heap.size≤g:=((HO.out).lt g rfl).1
            clear hpt J5
            obtain ⟨⟨tk,ts,tn,tl,ta⟩,A0,c0⟩:=pt
            simp only [T.kids] at hcell DW
            obtain ⟨qs,hq1,hq2,hq3⟩:=BD (B:=wr.heap.size) (fun k hk=>hk.2.1) DW.out.2.2
            have hkl:tl.length≤j:=DW.out.1.2.2.2.1
            have HQ:=anc (And.intro hq1 (And.intro hq2 hq3))
            clear hq1 hq2 hq3
            generalize htn:tl.length=n0 at *
            go_upto_region 25 with (fail)
            go_wp2_with fail
            refine (hlf.out).mono ?_
            rintro e w4 ⟨⟨lk,ln,la,lx,i2,why,at_,rfl,hi2,hlx,hl4,hn1,hn2,hji,hw7⟩,hb4⟩
            have HB4:=anc hb4
            have HW7:=anc hw7
            clear hw7
            have hs4:=hb4.size
            have agS:Hid (w4.heap[w.heap.size]?=some (.cells #[.int .i64 0,.string ⟨#[]⟩,.int .i64 0,.slice none 0 0,.int .i64 0] 86 (0,0))):=anc ((hb4.block _ (by omega)).trans hBw.out)
            clear hb4
            cases hwy:(why != 0)
            ·obtain ⟨wq,QZ⟩:∃ wq,wq=w4.alloc (.cells #[.int .i64 lk,.string lx,.int .i64 ln,.slice none 0 0,.int .i64 la] 86):=⟨_,rfl⟩
             have hbq:Below w4.heap.size w4 wq:=by rw [QZ];exact (anl _ _).alloc (ank _) _
             have iJ:Hid (wq.heap[w4.heap.size]?=some (.cells #[.int .i64 lk,.string lx,.int .i64 ln,.slice none 0 0,.int .i64 la] 86 (0,0))):=anc (by rw [QZ];exact anm w4 _)
             have YU:wq.heap.size=w4.heap.size+1:=by rw [QZ];simp
             have YA:=anc QZ
             have qZ:Hid (Below wr.heap.size wr wq):=anc (HB4.out.trans (hbq.mono hs4))
             have hcq:wq.cell? ⟨g,m1*5+3,none⟩=some (.slice A0 n0 c0):=(qZ.out.cell (p:=⟨g,m1*5+3,none⟩) Qk).trans hcell
             have hfq:wq.frozen? ⟨g,m1*5+3,none⟩=false:=(qZ.out.frozen (p:=⟨g,m1*5+3,none⟩) Qk).trans J6
             have hgq:g<wq.heap.size:=by omega
             have hRq:Reads wq wr.heap.size 5 A0 n0 (aO qs):=(HQ.out.2.1).below qZ.out
             have hE1:Hid ((wq.alloc (.cells #[] 86)).drew.ownsRow wq.heap.size 86 5 (.slice (some ⟨wq.heap.size,0,none⟩) 0 0) 0 []):=anc (ng wq 86 (ank _))
             have hE2:Hid (((wq.alloc (.cells #[] 86)).alloc (.cells #[.int .i64 lk,.string lx,.int .i64 ln,.slice none 0 0,.int .i64 la] 86)).drew.ownsRow wq.heap.size 86 5 (.slice (some ⟨wq.heap.size,0,none⟩) 0 0) 0 []):=anc ((ng wq 86 (ank _)).alloc _)
             have VN:Hid (((wq.alloc (.cells #[.int .i64 lk,.string lx,.int .i64 ln,.slice none 0 0,.int .i64 la] 86)).alloc (.cells #[] 86)).drew.ownsRow wq.heap.size 86 5 (.slice (some ⟨wq.heap.size+1,0,none⟩) 0 0) 0 []):=anc (x8 (wq.alloc (.cells #[.int .i64 lk,.string lx,.int .i64 ln,.slice none 0 0,.int .i64 la] 86)) 86 (by simp) (by simp))
             have tu:Hid (Below wq.heap.size wq (wq.alloc (.cells #[] 86)).drew):=anc (((anl wq.heap.size wq).alloc (ank _) _).drew)
             have DD:Hid (Below wq.heap.size wq ((wq.alloc (.cells #[] 86)).alloc (.cells #[.int .i64 lk,.string lx,.int .i64 ln,.slice none 0 0,.int .i64 la] 86)).drew):=anc ((((anl wq.heap.size wq).alloc (ank _) _).alloc (by simp) _).drew)
             have DF:Hid (Below wq.heap.size wq ((wq.alloc (.cells #[.int .i64 lk,.string lx,.int .i64 ln,.slice none 0 0,.int .i64 la] 86)).alloc (.cells #[] 86)).drew):=anc ((((anl wq.heap.size wq).alloc (ank _) _).alloc (by simp) _).drew)
             have hR1:=anc (hRq.below (tu.out.mono (B:=wq.heap.size) (by omega)))
             have hR2:=anc (hRq.below (DD.out.mono (B:=wq.heap.size) (by omega)))
             have VM:=anc (hRq.below (DF.out.mono (B:=wq.heap.size) (by omega)))
             have hX2:Hid (((wq.alloc (.cells #[] 86)).alloc (.cells #[.int .i64 lk,.string lx,.int .i64 ln,.slice none 0 0,.int .i64 la] 86)).drew.heap[wq.heap.size+1]?=some (.cells #[.int .i64 lk,.string lx,.int .i64 ln,.slice none 0 0,.int .i64 la] 86 (0,0))):=anc (alloc_at (wq.alloc (.cells #[] 86)) (.cells #[.int .i64 lk,.string lx,.int .i64 ln,.slice none 0 0,.int .i64 la] 86) (by simp))
             have hX3:Hid (((wq.alloc (.cells #[.int .i64 lk,.string lx,.int .i64 ln,.slice none 0 0,.int .i64 la] 86)).alloc (.cells #[] 86)).drew.heap[wq.heap.size]?=some (.cells #[.int .i64 lk,.string lx,.int .i64 ln,.slice none 0 0,.int .i64 la] 86 (0,0))):=anc ((((anl (wq.heap.size+1) (wq.alloc (.cells #[.int .i64 lk,.string lx,.int .i64 ln,.slice none 0 0,.int .i64 la] 86))).alloc (by simp) _).block _ (by omega)).trans (anm wq _))
             have hcA:(wq.alloc (.cells #[] 86)).cell? ⟨g,m1*5+3,none⟩=some (.slice A0 n0 c0):=(tu.out.cell (p:=⟨g,m1*5+3,none⟩) hgq).trans hcq
             have hcB:(wq.alloc (.cells #[.int .i64 lk,.string lx,.int .i64 ln,.slice none 0 0,.int .i64 la] 86)).cell? ⟨g,m1*5+3,none⟩=some (.slice A0 n0 c0):=(((anl wq.heap.size wq).alloc (ank _) _).cell (p:=⟨g,m1*5+3,none⟩) hgq).trans hcq
             have hcC:((wq.alloc (.cells #[] 86)).alloc (.cells #[.int .i64 lk,.string lx,.int .i64 ln,.slice none 0 0,.int .i64 la] 86)).cell? ⟨g,m1*5+3,none⟩=some (.slice A0 n0 c0):=(DD.out.cell (p:=⟨g,m1*5+3,none⟩) hgq).trans hcq
             have hcD:((wq.alloc (.cells #[.int .i64 lk,.string lx,.int .i64 ln,.slice none 0 0,.int .i64 la] 86)).alloc (.cells #[] 86)).cell? ⟨g,m1*5+3,none⟩=some (.slice A0 n0 c0):=(DF.out.cell (p:=⟨g,m1*5+3,none⟩) hgq).trans hcq
             obtain ⟨⟨x0,x1,x2,x3,x4⟩,_,_,_,_,_⟩:=ay (((tu.out.block w4.heap.size (by omega)).trans iJ.out:(wq.alloc (.cells #[] 86)).heap[w4.heap.size]?=_))
             obtain ⟨⟨y0,y1,y2,y3,y4⟩,z0,z1,z2,z3,z4⟩:=ay iJ.out
             go_upto_region 28 with (fail)
             rw [←YA.out]
             have U8:w4.heap.size<wq.heap.size:=by omega
             have HSQ:=anc YU
             have HWS:=anc hws
             clear QZ hbq hcell J6 YU
             have lZ:Hid (∀ w',Below wq.heap.size wq w'→w'.cell? ⟨g,m1*5+3,none⟩=some (.slice A0 n0 c0)∧w'.cell? ⟨w4.heap.size,0,none⟩=some (.int .i64 lk)∧w'.cell? ⟨w4.heap.size,1,none⟩=some (.string lx)∧w'.cell? ⟨w4.heap.size,2,none⟩=some (.int .i64 ln)∧w'.cell? ⟨w4.heap.size,3,none⟩=some (.slice none 0 0)∧w'.cell? ⟨w4.heap.size,4,none⟩=some (.int .i64 la)):=anc (fun w' hb=>⟨(hb.cell (p:=⟨g,m1*5+3,none⟩) hgq).trans hcq,(hb.cell (p:=⟨w4.heap.size,0,none⟩) U8).trans y0,(hb.cell (p:=⟨w4.heap.size,1,none⟩) U8).trans y1,(hb.cell (p:=⟨w4.heap.size,2,none⟩) U8).trans y2,(hb.cell (p:=⟨w4.heap.size,3,none⟩) U8).trans y3,(hb.cell (p:=⟨w4.heap.size,4,none⟩) U8).trans y4⟩)
             refine ai.dU (fun w'=>w'.cell? ⟨g,m1*5+3,none⟩=some (.slice A0 n0 c0)∧w'.cell? ⟨w4.heap.size,0,none⟩=some (.int .i64 lk)∧w'.cell? ⟨w4.heap.size,1,none⟩=some (.string lx)∧w'.cell? ⟨w4.heap.size,2,none⟩=some (.int .i64 ln)∧w'.cell? ⟨w4.heap.size,3,none⟩=some (.slice none 0 0)∧w'.cell? ⟨w4.heap.size,4,none⟩=some (.int .i64 la)) 14 (by kernel_rfl) (lZ.out _ (anl _ _).drew) (fun hHeld=>?_)
             refine ai.ae (i:=0) (C:=[0,12,13,14]) (v:=?ajh) rfl (by kernel_rfl) (by kernel_rfl) (by kernel_rfl) (by kernel_rfl) (fun _ _ _ h=>h) (Or.inl ⟨by rfl,?aaG⟩) (by assumption) ?_
             case aaG=>(intro w1 hSw;(try dsimp only at hSw);go_simp;try with_reducible rfl)
             simp only [ane,anf,Act.put,anh,ani,anj]
             refine ai.ae (i:=1) (C:=[1,12,13,14]) (v:=?aji) rfl (by kernel_rfl) (by kernel_rfl) (by kernel_rfl) (by kernel_rfl) (fun _ _ _ h=>h) (Or.inl ⟨by rfl,?aaH⟩) (by assumption) ?_
             case aaH=>(intro w1 hSw;(try dsimp only at hSw);go_simp;try with_reducible rfl)
             simp only [ane,ang,anf,Act.put,anh,ani,anj]
             refine ai.ae (i:=3) (C:=[3,5,6,7,8,11,14]) (v:=?ajj) rfl (by kernel_rfl) (by kernel_rfl) (by kernel_rfl) (by kernel_rfl) (fun _ _ _ h=>h) (Or.inl ⟨by rfl,?aaI⟩) (by assumption) ?_
             case aaI=>(intro w1 hSw;(try dsimp only at hSw);go_simp;try with_reducible rfl)
             simp only [ane,ang,anf,Act.put,anh,ani,anj]
             refine ai.ae (i:=4) (C:=[4,5,6,7,8,11,14]) (v:=?ajk) rfl (by kernel_rfl) (by kernel_rfl) (by kernel_rfl) (by kernel_rfl) (fun _ _ _ h=>h) (Or.inl ⟨by rfl,?aaJ⟩) (by assumption) ?_
             case aaJ=>(intro w1 hSw;(try dsimp only at hSw);go_simp;try with_reducible rfl)
             simp only [ane,ang,anf,Act.put,anh,ani,anj]
             refine ai.ae (i:=5) (C:=[5,6,7,8,11,14]) (v:=?ajl) rfl (by kernel_rfl) (by kernel_rfl) (by kernel_rfl) (by kernel_rfl) (fun _ _ _ h=>h) (Or.inl ⟨by rfl,?aaK⟩) (by assumption) ?_
             case aaK=>(intro w1 hSw;(try dsimp only at hSw);go_simp;try with_reducible rfl)
             simp only [ane,ang,anf,Act.put,anh,ani,anj]
             refine ai.ae (i:=6) (C:=[6,7,8,11,14]) (v:=?ajm) rfl (by kernel_rfl) (by kernel_rfl) (by kernel_rfl) (by kernel_rfl) (fun _ _ _ h=>h) (Or.inl ⟨by rfl,?aaL⟩) (by assumption) ?_
             case aaL=>(intro w1 hSw;(try dsimp only at hSw);go_simp;try with_reducible rfl)
             simp only [ane,ang,anf,Act.put,anh,ani,anj]
             refine ai.ae (i:=7) (C:=[7,8,11,14]) (v:=?ajn) rfl (by kernel_rfl) (by kernel_rfl) (by kernel_rfl) (by kernel_rfl) (fun _ _ _ h=>h) (Or.inl ⟨by rfl,?aaM⟩) (by assumption) ?_
             case aaM=>(intro w1 hSw;(try dsimp only at hSw);go_simp;try with_reducible rfl)
             simp only [ane,ang,anf,Act.put,anh,ani,anj]
             refine ai.ae (i:=9) (C:=[9,10,11,14]) (v:=?ajo) rfl (by kernel_rfl) (by kernel_rfl) (by kernel_rfl) (by kernel_rfl) (fun _ _ _ h=>h) (Or.inl ⟨by rfl,?aaN⟩) (by assumption) ?_
             case aaN=>(intro w1 hSw;(try dsimp only at hSw);go_simp;try with_reducible rfl)
             simp only [ane,ang,anf,Act.put,anh,ani,anj]
             refine ai.au (rs:=[2,10]) (by kernel_rfl) (by simp) ?_
             refine ai.ah.cons rfl (fun K hK=>?_) (ai.ah.cons rfl (fun K hK=>?_) ai.ah.nil)
             refine oq _ rfl rfl ?_
             refine hK.out _ _ (lZ.out _ tu.out) (fun hHeld=>?_)
             clear hK K
             simp only [ane,ang,anf,Act.put,anh,ani,anj,World.size_alloc,World.size_drew]
             refine ai.au (rs:=[8,10]) (by kernel_rfl) (by simp) ?_
             refine ai.ah.cons rfl (fun K hK=>?_) (ai.ah.cons rfl (fun K hK=>?_) ai.ah.nil)
             refine bU _ rfl _ _ 84 rfl wq.heap.size 86 i0 _ 5 64 Tryz.underlying84 hi hz0 hz1 hz2 rfl (by decide) _ _ _ rfl hE1.out wr.heap.size A0 n0 c0 (aO qs) rfl hR1.out (bG _) ?a1 ?a2 ?a3 ?_
             case a1=>(unfold maxLen;omega)
             case a2=>omega
             case a3=>(first | omega | (simp;done) | (simp;omega))
             intro v5 w5 hown5 bI gY
             have fV:Hid (w5.ownsRow wq.heap.size 86 5 v5 n0 (aO qs)):=anc (by rw [Nat.zero_add,List.nil_append] at hown5;exact hown5)
             have fP:Hid (Below wq.heap.size wq w5):=anc (tu.out.grown bI tu.out.size (fun k e=>by have he:wq.heap.size+0=k:=Option.some.inj e;omega))
             have hs5:=fP.out.size
             clear hown5 bI gY
             refine hK.out _ _ (lZ.out _ fP.out) (fun hHeld=>?_)
             clear hK K
             simp only [ane,ang,anf,Act.put,anh,ani,anj]
             refine ai.au (rs:=[10]) (by kernel_rfl) (by simp) ?_
             refine ai.ah.cons rfl (fun K hK=>?_) ai.ah.nil
             refine jb _ rfl 138 rfl lk ln la lx none 0 0 rfl ?_
             refine hK.out _ _ (lZ.out _ (fP.out.alloc hs5 _)) (fun hHeld=>?_)
             clear hK K
             simp only [ane,ang,anf,Act.put,anh,ani,anj,World.size_alloc,World.size_drew]
             refine ai.au (rs:=[11]) (by kernel_rfl) (by simp) ?_
             refine ai.ah.cons rfl (fun K hK=>?_) ai.ah.nil
             refine bU _ rfl _ _ 84 rfl wq.heap.size 86 i0 _ 5 64 Tryz.underlying84 hi hz0 hz1 hz2 rfl (by decide) _ _ _ rfl (fV.out.alloc _) (w5.heap.size+1) _ _ _ (TP.cs ((.mk lk lx ln [] la:T),none,0)) rfl ⟨rfl,fun _=>⟨_,rfl,Nat.lt_succ_self _,World.news_of_block (anm w5 _)⟩⟩ ?b1 ?b2 ?b3 ?b4 ?_
             case b1=>(rw [←bD];exact bG _)
             case b2=>(unfold maxLen;omega)
             case b3=>omega
             case b4=>(first | omega | (simp;done) | (simp;omega))
             intro v6 w6 hown6 hgrow6 yB
             obtain ⟨g6,cap6,rfl,Q3,Q4⟩:=hown6.form (Nat.succ_pos _)
             have nU:=anc hown6
             have iP:Hid (Below wq.heap.size wq w6):=anc ((fP.out.alloc hs5 _).grown hgrow6 (fP.out.alloc hs5 _).size (fun k e=>(fV.out.lt k e).1))
             have hc6:w6.cell? ⟨g,m1*5+3,none⟩=some (.slice A0 n0 c0):=(iP.out.cell (p:=⟨g,m1*5+3,none⟩) hgq).trans hcq
             have QL:w6.frozen? ⟨g,m1*5+3,none⟩=false:=(iP.out.frozen (p:=⟨g,m1*5+3,none⟩) hgq).trans hfq
             clear hown6 hgrow6 yB
             refine hK.out _ _ (lZ.out _ iP.out) (fun hHeld=>?_)
             clear hK K
             simp only [ane,ang,anf,Act.put,anh,ani,anj]
             refine ai.ae (i:=12) (C:=[12,13,14]) (v:=?ajp) rfl (by kernel_rfl) (by kernel_rfl) (by kernel_rfl) (by kernel_rfl) (fun _ _ _ h=>h) (Or.inl ⟨by rfl,?aaO⟩) (by assumption) ?_
             case aaO=>(intro w1 hSw;(try dsimp only at hSw);go_simp;try with_reducible rfl)
             simp only [ane,ang,anf,Act.put,anh,ani,anj]
             refine ai.ae (i:=13) (C:=[13,14]) (v:=?agT) rfl (by kernel_rfl) (by kernel_rfl) (by kernel_rfl) (by kernel_rfl) (fun _ _ _ h=>h) (Or.inl ⟨by rfl,?XL⟩) (by assumption) ?_
             case XL=>(intro w1 hSw;(try dsimp only at hSw);go_simp;try with_reducible rfl)
             simp only [ane,ang,anf,Act.put,anh,ani,anj]
             refine ai.au (rs:=[14]) (by kernel_rfl) (by simp) ?_
             refine ai.ah.last rfl (fun K hK=>?_)
             simp only [ane,ang,anf]
             go_simp
             refine hK.out _ _ ?_
             clear hK K
             refine ai.dw (by kernel_rfl) ?_ _
             rotate_left
             refine jb _ rfl 138 rfl lk ln la lx none 0 0 rfl ?_
             refine hK.out _ _ (lZ.out _ DD.out) (fun hHeld=>?_)
             clear hK K
             simp only [ane,ang,anf,Act.put,anh,ani,anj,World.size_alloc,World.size_drew]
             refine ai.au (rs:=[8]) (by kernel_rfl) (by simp) ?_
             refine ai.ah.cons rfl (fun K hK=>?_) ai.ah.nil
             refine bU _ rfl _ _ 84 rfl wq.heap.size 86 i0 _ 5 64 Tryz.underlying84 hi hz0 hz1 hz2 rfl (by decide) _ _ _ rfl hE2.out wr.heap.size A0 n0 c0 (aO qs) rfl hR2.out (bG _) ?a1 ?a2 ?a3 ?_
             case a1=>(unfold maxLen;omega)
             case a2=>omega
             case a3=>(first | omega | (simp;done) | (simp;omega))
             intro v5 w5 hown5 bI gY
             have fV:Hid (w5.ownsRow wq.heap.size 86 5 v5 n0 (aO qs)):=anc (by rw [Nat.zero_add,List.nil_append] at hown5;exact hown5)
             have fP:Hid (Below wq.heap.size wq w5):=anc (DD.out.grown bI DD.out.size (fun k e=>by have he:wq.heap.size+0=k:=Option.some.inj e;omega))
             have hs5:=fP.out.size
             have qW:=anc ((bI.block (wq.heap.size+1) (by first | omega | (simp;done) | (simp;omega)) (fun e=>by have he:wq.heap.size+1=wq.heap.size:=Option.some.inj e;omega)).trans hX2.out)
             clear hown5 bI gY
             refine hK.out _ _ (lZ.out _ fP.out) (fun hHeld=>?_)
             clear hK K
             simp only [ane,ang,anf,Act.put,anh,ani,anj]
             refine ai.au (rs:=[11]) (by kernel_rfl) (by simp) ?_
             refine ai.ah.cons rfl (fun K hK=>?_) ai.ah.nil
             refine bU _ rfl _ _ 84 rfl wq.heap.size 86 i0 _ 5 64 Tryz.underlying84 hi hz0 hz1 hz2 rfl (by decide) _ _ _ rfl fV.out (wq.heap.size+1+1) _ _ _ (TP.cs ((.mk lk lx ln [] la:T),none,0)) rfl ⟨rfl,fun _=>⟨_,rfl,Nat.lt_succ_self _,World.news_of_block qW.out⟩⟩ ?b1 ?b2 ?b3 ?b4 ?_
             case b1=>(rw [←bD];exact bG _)
             case b2=>(unfold maxLen;omega)
             case b3=>omega
             case b4=>(first | omega | (simp;done) | (simp;omega))
             intro v6 w6 hown6 hgrow6 yB
             obtain ⟨g6,cap6,rfl,Q3,Q4⟩:=hown6.form (Nat.succ_pos _)
             have nU:=anc hown6
             have iP:Hid (Below wq.heap.size wq w6):=anc (fP.out.grown hgrow6 fP.out.size (fun k e=>(fV.out.lt k e).1))
             have hc6:w6.cell? ⟨g,m1*5+3,none⟩=some (.slice A0 n0 c0):=(iP.out.cell (p:=⟨g,m1*5+3,none⟩) hgq).trans hcq
             have QL:w6.frozen? ⟨g,m1*5+3,none⟩=false:=(iP.out.frozen (p:=⟨g,m1*5+3,none⟩) hgq).trans hfq
             clear hown6 hgrow6 yB
             refine hK.out _ _ (lZ.out _ iP.out) (fun hHeld=>?_)
             clear hK K
             simp only [ane,ang,anf,Act.put,anh,ani,anj]
             refine ai.ae (i:=12) (C:=[12,13,14]) (v:=?agU) rfl (by kernel_rfl) (by kernel_rfl) (by kernel_rfl) (by kernel_rfl) (fun _ _ _ h=>h) (Or.inl ⟨by rfl,?XM⟩) (by assumption) ?_
             case XM=>(intro w1 hSw;(try dsimp only at hSw);go_simp;try with_reducible rfl)
             simp only [ane,ang,anf,Act.put,anh,ani,anj]
             refine ai.ae (i:=13) (C:=[13,14]) (v:=?agV) rfl (by kernel_rfl) (by kernel_rfl) (by kernel_rfl) (by kernel_rfl) (fun _ _ _ h=>h) (Or.inl ⟨by rfl,?XN⟩) (by assumption) ?_
             case XN=>(intro w1 hSw;(try dsimp only at hSw);go_simp;try with_reducible rfl)
             simp only [ane,ang,anf,Act.put,anh,ani,anj]
             refine ai.au (rs:=[14]) (by kernel_rfl) (by simp) ?_
             refine ai.ah.last rfl (fun K hK=>?_)
             simp only [ane,ang,anf]
             go_simp
             refine hK.out _ _ ?_
             clear hK K
             refine ai.dw (by kernel_rfl) ?_ _
             rotate_left
             refine jb _ rfl 138 rfl lk ln la lx none 0 0 rfl ?_
             refine hK.out _ _ (lZ.out _ (((anl wq.heap.size wq).alloc (ank _) _).drew)) (fun hHeld=>?_)
             clear hK K
             simp only [ane,ang,anf,Act.put,anh,ani,anj,World.size_alloc,World.size_drew]
             refine ai.au (rs:=[2]) (by kernel_rfl) (by simp) ?_
             refine ai.ah.cons rfl (fun K hK=>?_) ai.ah.nil
             refine oq _ rfl rfl ?_
             refine hK.out _ _ (lZ.out _ DF.out) (fun hHeld=>?_)
             clear hK K
             simp only [ane,ang,anf,Act.put,anh,ani,anj,World.size_alloc,World.size_drew]
             refine ai.au (rs:=[8]) (by kernel_rfl) (by simp) ?_
             refine ai.ah.cons rfl (fun K hK=>?_) ai.ah.nil
             refine bU _ rfl _ _ 84 rfl wq.heap.size 86 i0 _ 5 64 Tryz.underlying84 hi hz0 hz1 hz2 rfl (by decide) _ _ _ rfl VN.out wr.heap.size A0 n0 c0 (aO qs) rfl VM.out (bG _) ?a1 ?a2 ?a3 ?_
             case a1=>(unfold maxLen;omega)
             case a2=>omega
             case a3=>(first | omega | (simp;done) | (simp;omega))
             intro v5 w5 hown5 bI gY
             have fV:Hid (w5.ownsRow wq.heap.size 86 5 v5 n0 (aO qs)):=anc (by rw [Nat.zero_add,List.nil_append] at hown5;exact hown5)
             have fP:Hid (Below wq.heap.size wq w5):=anc (DF.out.grown bI DF.out.size (fun k e=>by have he:wq.heap.size+1=k:=Option.some.inj e;omega))
             have hs5:=fP.out.size
             have qW:=anc ((bI.block wq.heap.size (by first | omega | (simp;done) | (simp;omega)) (fun e=>by have he:wq.heap.size=wq.heap.size+1:=Option.some.inj e;omega)).trans hX3.out)
             clear hown5 bI gY
             refine hK.out _ _ (lZ.out _ fP.out) (fun hHeld=>?_)
             clear hK K
             simp only [ane,ang,anf,Act.put,anh,ani,anj]
             refine ai.au (rs:=[11]) (by kernel_rfl) (by simp) ?_
             refine ai.ah.cons rfl (fun K hK=>?_) ai.ah.nil
             refine bU _ rfl _ _ 84 rfl wq.heap.size 86 i0 _ 5 64 Tryz.underlying84 hi hz0 hz1 hz2 rfl (by decide) _ _ _ rfl fV.out (wq.heap.size+1) _ _ _ (TP.cs ((.mk lk lx ln [] la:T),none,0)) rfl ⟨rfl,fun _=>⟨_,rfl,Nat.lt_succ_self _,World.news_of_block qW.out⟩⟩ ?b1 ?b2 ?b3 ?b4 ?_
             case b1=>(rw [←bD];exact bG _)
             case b2=>(unfold maxLen;omega)
             case b3=>omega
             case b4=>(first | omega | (simp;done) | (simp;omega))
             intro v6 w6 hown6 hgrow6 yB
             obtain ⟨g6,cap6,rfl,Q3,Q4⟩:=hown6.form (Nat.succ_pos _)
             have nU:=anc hown6
             have iP:Hid (Below wq.heap.size wq w6):=anc (fP.out.grown hgrow6 fP.out.size (fun k e=>(fV.out.lt k e).1))
             have hc6:w6.cell? ⟨g,m1*5+3,none⟩=some (.slice A0 n0 c0):=(iP.out.cell (p:=⟨g,m1*5+3,none⟩) hgq).trans hcq
             have QL:w6.frozen? ⟨g,m1*5+3,none⟩=false:=(iP.out.frozen (p:=⟨g,m1*5+3,none⟩) hgq).trans hfq
             clear hown6 hgrow6 yB
             refine hK.out _ _ (lZ.out _ iP.out) (fun hHeld=>?_)
             clear hK K
             simp only [ane,ang,anf,Act.put,anh,ani,anj]
             refine ai.ae (i:=12) (C:=[12,13,14]) (v:=?agW) rfl (by kernel_rfl) (by kernel_rfl) (by kernel_rfl) (by kernel_rfl) (fun _ _ _ h=>h) (Or.inl ⟨by rfl,?XO⟩) (by assumption) ?_
             case XO=>(intro w1 hSw;(try dsimp only at hSw);go_simp;try with_reducible rfl)
             simp only [ane,ang,anf,Act.put,anh,ani,anj]
             refine ai.ae (i:=13) (C:=[13,14]) (v:=?agX) rfl (by kernel_rfl) (by kernel_rfl) (by kernel_rfl) (by kernel_rfl) (fun _ _ _ h=>h) (Or.inl ⟨by rfl,?XP⟩) (by assumption) ?_
             case XP=>(intro w1 hSw;(try dsimp only at hSw);go_simp;try with_reducible rfl)
             simp only [ane,ang,anf,Act.put,anh,ani,anj]
             refine ai.au (rs:=[14]) (by kernel_rfl) (by simp) ?_
             refine ai.ah.last rfl (fun K hK=>?_)
             simp only [ane,ang,anf]
             go_simp
             refine hK.out _ _ ?_
             clear hK K
             refine ai.dw (by kernel_rfl) ?_ _
             rotate_left
             all_goals
              have adI:why=0:=by simpa using hwy
              have amk:j<i2:=hji adI
              clear adI
              go_wp2_with fail
              go_roundw
              case measure=>simp [intOf];omega
              case rel =>
               obtain ⟨r1,r2⟩:=FM (x:=((.mk lk lx ln [] la:T),none,0)) (n1:=n0+1) (m1:=m1) (i2:=i2) HO.out jI.out DX.out hxk.out (qZ.out.trans (iP.out.mono qZ.out.size)) HQ.out.1 HQ.out.2.2 (.mk lk lx ln [] la hn1 hn2 hlx hl4 (by simp) (fun e he=>by cases he)) ⟨ank _,.nil _⟩ nU.out qZ.out.size (by rw [htn]) (by omega) (by omega) (by omega) hs1
               exact ⟨i2,m,g,cap,_,hi2,rfl,rfl,hm1,hm2,by rw [List.length_set];exact jI.out,r1,anc r2,(HB.out.trans ((qZ.out.trans (iP.out.mono qZ.out.size)).mono hs1)).setCell (p:=⟨g,m1*5+3,none⟩) aaD _,anc (hdp.out.kid DX.out (.leaf (by have:=HM1.out;omega) _ _ _ _)),anc (hex.out.leaf HNC.out hs ny.out (by rw [hcc];exact xK) (by rw [jI.out];exact HM1.out) DX.out HW7.out hi2)⟩
            ·have adJ:Hid ((w4.alloc (.cells #[.int .i64 lk,.string lx,.int .i64 ln,.slice none 0 0,.int .i64 la] 86)).heap[w.heap.size]?=some (.cells #[.int .i64 0,.string ⟨#[]⟩,.int .i64 0,.slice none 0 0,.int .i64 0] 86 (0,0))):=anc ((((anl w4.heap.size w4).alloc (ank _) _).block _ (by omega)).trans agS.out)
             obtain ⟨⟨k0,k1,k2,k3,k4⟩,f0,f1,f2,f3,f4⟩:=ay adJ.out
             go_wp2_with fail
             refine ano (dV rfl rfl rfl rfl (aB adJ.out)) rfl ?_
             exact ⟨gq (hex.out.XI HNC.out (by rw [hcc];exact xK) HW7.out (by simpa using hwy)) _ _ _ _,aC (((HB1.out.trans (HB.out.mono (by omega))).trans (HB4.out.mono (by omega))).alloc (by omega) _) (ank _)⟩
           ·as_aux_lemma =>
            cases h12:decide (12≤(m:Int)-1)
            ·as_aux_lemma =>
             have agY:m≤12:=by simp at h12;omega
             have hRo:Hid (Reads wr wr.heap.size 5 (some ⟨g,0,none⟩) m (aO ps)):=anc (Reads.YW HO.out)
             go_upto_region 23 with (fail)
             go_wp2_with (at_builtin;refine gZ _ rfl _ _ 84 rfl w1.heap.size 86 i0 _ 5 64 Tryz.underlying84 hi hz0 hz1 hz2 rfl (by decide) _ _ _ rfl (ng wr 86 hs1) wr.heap.size _ _ _ (aO ps) rfl (hRo.out.alloc (ank _) _) ?c1 ?c2 ?c3 ?c4 ?_)
             case c1=>exact bG _
             case c2=>unfold maxLen;omega
             case c3=>omega
             case c4=>simp;omega
             intro v5 w5 hown5 bI gY
             have fV:Hid (w5.ownsRow w1.heap.size 86 5 v5 m (aO ps)):=anc (by rw [hws];simpa using hown5)
             have fP:Hid (Below wr.heap.size wr w5):=anc (((anl wr.heap.size wr).alloc (ank _) _).grown bI (by simp) (fun k e=>by have:=Option.some.inj e;simp at this;omega))
             have adK:Hid (∀ k,v5.ownBlock=some k→wr.heap.size≤k):=anc (fun k e=>by
              rcases gY with h | h
              ·rw [h] at e;have he:wr.heap.size=k:=Option.some.inj e;omega
              ·rw [h] at e;have:=Option.some.inj e;first | omega | (simp at this;omega))
             have hs5:=fP.out.size
             clear hown5 bI gY
             obtain ⟨g5,cap5,rfl,amm,amn⟩:=fV.out.form (by omega)
             go_wp2_with (at_builtin;refine gZ _ rfl _ _ 84 rfl w1.heap.size 86 i0 _ 5 64 Tryz.underlying84 hi hz0 hz1 hz2 rfl (by decide) _ _ _ rfl (fV.out.alloc _) (w5.heap.size+1) _ _ _ (TP.cs ((.mk 1 ⟨#[]⟩ 0 [] (j:Int):T),none,0)) rfl ⟨rfl,fun _=>⟨_,rfl,Nat.lt_succ_self _,World.news_of_block (anm w5 _)⟩⟩ ?d1 ?d2 ?d3 ?d4 ?_)
             case d1=>rw [←bD];exact bG _
             case d2=>unfold maxLen;omega
             case d3=>omega
             case d4=>simp;omega
             intro v6 w6 hown6 hgrow6 yB
             have hg5:wr.heap.size≤g5:=adK.out g5 rfl
             have nU:Hid (w6.ownsRow w1.heap.size 86 5 v6 (m+1) (aO (ps++[((.mk 1 ⟨#[]⟩ 0 [] (j:Int):T),none,0)]))):=anc (by rw [fZ,bD,hws];exact hown6)
             have iP:Hid (Below wr.heap.size wr w6):=anc ((fP.out.alloc hs5 _).grown hgrow6 (by simp;omega) (fun k e=>by have he:g5=k:=Option.some.inj e;omega))
             obtain ⟨g6,cap6,rfl,Q3,Q4⟩:=hown6.form (by omega)
             have hg6:wr.heap.size≤g6:=by
              rcases yB with h | h
              ·have he:g6=g5:=Option.some.inj h;omega
              ·have he:g6=w5.heap.size+1:=Option.some.inj h;omega
             have hs6:=iP.out.size
             clear hown6 hgrow6 yB
             go_wp2_with fail
             go_roundw
             case rel =>
              refine ⟨j+1,m+1,g6,cap6,ps++[((.mk 1 ⟨#[]⟩ 0 [] (j:Int):T),none,0)],by omega,by go_num,rfl,by omega,by omega,by rw [List.length_append,jI.out];rfl,nU.out,anc fun p hp=>?_,HB.out.trans (iP.out.mono hs1),anc (hdp.out.push _),anc (hex.out.open HNC.out ny.out (by rw [hcc];exact xK) (by rw [jI.out];exact agY))⟩
              rcases List.mem_append.1 hp with hp | hp
              ·obtain ⟨q1,q2,q3⟩:=hxk.out p hp
               exact ⟨q1.more (Nat.le_succ _),q2,(q3.kept fun k hk=>iP.out.block k hk.2.1).mono fun k hk=>⟨hk.1,by have:=hk.2.1;omega,by have:=hk.2.1;omega⟩⟩
              ·obtain rfl:p=((.mk 1 ⟨#[]⟩ 0 [] (j:Int):T),none,0):=by simpa using hp
               exact ⟨⟨⟨(show (-9223372036854775808:Int)≤0 by decide),(show (0:Int)≤9223372036854775807 by decide)⟩,(show (⟨#[]⟩:ByteArray).size≤600 by decide),(show (1:Int)=4→(⟨#[]⟩:ByteArray).size≤40 by decide),Nat.zero_le _,fun e he=>by cases he⟩,ank _,.nil _⟩
             case measure=>simp [intOf];omega
            ·obtain ⟨⟨k0,k1,k2,k3,k4⟩,f0,f1,f2,f3,f4⟩:=ay hBw.out
             go_wp2_with fail
             refine ano (dV rfl rfl rfl rfl (aB hBw.out)) rfl ?_
             exact ⟨gq (hex.out.XG HNC.out (by rw [hcc];exact xK) (by rw [jI.out];have:=h12;simp at this;omega)) _ _ _ _,aC (HB1.out.trans (HB.out.mono (by omega))) (ank _)⟩
          ·obtain ⟨⟨k0,k1,k2,k3,k4⟩,f0,f1,f2,f3,f4⟩:=ay hBw.out
           go_wp2_with fail
           refine ano (dV rfl rfl rfl rfl (aB hBw.out)) rfl ?_
           exact ⟨gq (hex.out.XH HNC.out ny.out) _ _ _ _,aC (HB1.out.trans (HB.out.mono (by omega))) (ank _)⟩
       ·obtain ⟨xK,qR,h45,hlb,JR⟩:(cc==40)=false∧(cc==34)=false∧(cc==45)=false∧nI s[j]=false∧AQ s[j]=false:=by
         refine ⟨?_,?_,?_,?_,?_⟩
         all_goals (apply Bool.eq_false_iff.2;intro h;exact hok (by simp [h]))
        clear hok hbad
        have adG:(cc != 40)=true:=by simp [bne,xK]
        have WH:(cc != 34)=true:=by simp [bne,qR]
        have adH:(cc != 45)=true:=by simp [bne,h45]
        rw [hlb] at hLj
        rw [JR] at hDj
        obtain ⟨⟨k0,k1,k2,k3,k4⟩,f0,f1,f2,f3,f4⟩:=ay hBw.out
        go_wp2_with fail
        refine (hLj.out _).mono ?_
        rintro e w' ⟨rfl,rfl⟩
        go_wp2_with fail
        refine (hDj.out _).mono ?_
        rintro e w' ⟨rfl,rfl⟩
        go_wp2_with fail
        refine ano (dV rfl rfl rfl rfl (aB hBw.out)) rfl ?_
        exact ⟨gq (hex.out.NM HNC.out (by rw [hcc];exact xK) hlb) _ _ _ _,aC (HB1.out.trans (HB.out.mono (by omega))) (ank _)⟩
      ·
       cases hm0:((m:Int)-1==0)
       ·as_aux_lemma =>
        obtain ⟨m1,J5⟩:∃ m1,m=m1+2:=⟨m-2,by have:=hm0;simp at this;omega⟩
        obtain ⟨mt,hmt⟩:∃ mt,mt=m1+1:=⟨_,rfl⟩
        have e0:(m:Int)-1=(mt:Int):=by omega
        have e1:(mt:Int)-1=(m1:Int):=by omega
        have e2:IntKind.i64.wrap ((mt:Int)-1)=(m1:Int):=by rw [e1];unfold IntKind.wrap;simp [IntKind.bits,IntKind.signed];omega
        have e3:IntKind.i64.wrap (m1:Int)=(m1:Int):=by rw [←e1];exact e2.trans e1.symm
        have amo:((mt:Int)==0)=false:=by simp;omega
        have l1:m1<m:=by omega
        have l2:mt<m:=by omega
        obtain ⟨pt,hpt⟩:∃ pt,ps[m1]?=some pt:=⟨_,anr (by rw [jI.out];exact l1)⟩
        obtain ⟨pc,hpc⟩:∃ pc,ps[mt]?=some pc:=⟨_,anr (by rw [jI.out];exact l2)⟩
        have DX:=anc hpt
        have HM1:=anc (And.intro J5 hmt)
        have hcell:=(jW HO.out jI.out hpt).2.2.2.1
        have J6:=(jW HO.out jI.out hpt).2.2.2.2.2
        obtain ⟨y0,y1,y2,y3,y4,_⟩:=jW HO.out jI.out hpc
        have DW:=anc (hxk.out pt (anq hpt))
        have HCK:=anc (hxk.out pc (anq hpc))
        have Qk:g<wr.heap.size:=((HO.out).lt g rfl).2
        have aaD:w1.heap.size≤g:=((HO.out).lt g rfl).1
        have ajq:m≤cap:=by
         rcases HO.out.2 with ⟨h',_⟩ | ⟨g',cap',cur,h',_,_,hnc,_⟩
         ·simp at h'
         ·simp only [Value.slice.injEq,Option.some.injEq,Addr.mk.injEq,and_true,true_and] at h'
          obtain ⟨_,rfl⟩:=h'
          exact hnc
        have HPC:=anc hpc
        clear hpt hpc hm0 J5 hmt
        obtain ⟨⟨tk,ts,tn,tl,ta⟩,A0,c0⟩:=pt
        obtain ⟨⟨ck,cs,cn,cl,ca⟩,C0,Bo⟩:=pc
        simp only [T.kids] at hcell DW HCK
        simp only [T.k,T.s,T.n,T.kids,T.at_] at y0 y1 y2 y3 y4
        obtain ⟨qs,hq1,hq2,hq3⟩:=BD (B:=wr.heap.size) (fun k hk=>hk.2.1) DW.out.2.2
        have hkl:tl.length≤j:=DW.out.1.2.2.2.1
        have HQ:=anc (And.intro hq1 (And.intro hq2 hq3))
        clear hq1 hq2 hq3
        generalize htn:tl.length=n0 at *
        obtain ⟨wq,QZ⟩:∃ wq,wq=wr:=⟨_,rfl⟩
        have YA:=anc QZ
        have qZ:Hid (Below wr.heap.size wr wq):=anc (by rw [QZ];exact anl _ _)
        have hcq:wq.cell? ⟨g,m1*5+3,none⟩=some (.slice A0 n0 c0):=by rw [QZ];exact hcell
        have hfq:wq.frozen? ⟨g,m1*5+3,none⟩=false:=by rw [QZ];exact J6
        have hgq:g<wq.heap.size:=by rw [QZ];exact Qk
        rw [←QZ] at y0 y1 y2 y3 y4
        have hRq:Reads wq wr.heap.size 5 A0 n0 (aO qs):=(HQ.out.2.1).below qZ.out
        have hwq:wr.heap.size≤wq.heap.size:=qZ.out.size
        have hE1:Hid ((wq.alloc (.cells #[] 86)).drew.ownsRow wq.heap.size 86 5 (.slice (some ⟨wq.heap.size,0,none⟩) 0 0) 0 []):=anc (ng wq 86 (ank _))
        have hE2:Hid (((wq.alloc (.cells #[] 86)).alloc (.cells #[.int .i64 ck,.string cs,.int .i64 cn,.slice C0 cl.length Bo,.int .i64 ca] 86)).drew.ownsRow wq.heap.size 86 5 (.slice (some ⟨wq.heap.size,0,none⟩) 0 0) 0 []):=anc ((ng wq 86 (ank _)).alloc _)
        have VN:Hid (((wq.alloc (.cells #[.int .i64 ck,.string cs,.int .i64 cn,.slice C0 cl.length Bo,.int .i64 ca] 86)).alloc (.cells #[] 86)).drew.ownsRow wq.heap.size 86 5 (.slice (some ⟨wq.heap.size+1,0,none⟩) 0 0) 0 []):=anc (x8 (wq.alloc (.cells #[.int .i64 ck,.string cs,.int .i64 cn,.slice C0 cl.length Bo,.int .i64 ca] 86)) 86 (by simp) (by simp))
        have tu:Hid (Below wq.heap.size wq (wq.alloc (.cells #[] 86)).drew):=anc (((anl wq.heap.size wq).alloc (ank _) _).drew)
        have DD:Hid (Below wq.heap.size wq ((wq.alloc (.cells #[] 86)).alloc (.cells #[.int .i64 ck,.string cs,.int .i64 cn,.slice C0 cl.length Bo,.int .i64 ca] 86)).drew):=anc ((((anl wq.heap.size wq).alloc (ank _) _).alloc (by simp) _).drew)
        have DF:Hid (Below wq.heap.size wq ((wq.alloc (.cells #[.int .i64 ck,.string cs,.int .i64 cn,.slice C0 cl.length Bo,.int .i64 ca] 86)).alloc (.cells #[] 86)).drew):=anc ((((anl wq.heap.size wq).alloc (ank _) _).alloc (by simp) _).drew)
        have hR1:=anc (hRq.below (tu.out.mono (B:=wq.heap.size) hwq))
        have hR2:=anc (hRq.below (DD.out.mono (B:=wq.heap.size) hwq))
        have VM:=anc (hRq.below (DF.out.mono (B:=wq.heap.size) hwq))
        have hX2:Hid (((wq.alloc (.cells #[] 86)).alloc (.cells #[.int .i64 ck,.string cs,.int .i64 cn,.slice C0 cl.length Bo,.int .i64 ca] 86)).drew.heap[wq.heap.size+1]?=some (.cells #[.int .i64 ck,.string cs,.int .i64 cn,.slice C0 cl.length Bo,.int .i64 ca] 86)):=anc (alloc_at (wq.alloc (.cells #[] 86)) (.cells #[.int .i64 ck,.string cs,.int .i64 cn,.slice C0 cl.length Bo,.int .i64 ca] 86) (by simp))
        have hX3:Hid (((wq.alloc (.cells #[.int .i64 ck,.string cs,.int .i64 cn,.slice C0 cl.length Bo,.int .i64 ca] 86)).alloc (.cells #[] 86)).drew.heap[wq.heap.size]?=some (.cells #[.int .i64 ck,.string cs,.int .i64 cn,.slice C0 cl.length Bo,.int .i64 ca] 86)):=anc ((((anl (wq.heap.size+1) (wq.alloc (.cells #[.int .i64 ck,.string cs,.int .i64 cn,.slice C0 cl.length Bo,.int .i64 ca] 86))).alloc (by simp) _).block _ (by omega)).trans (anm wq _))
        have hcA:(wq.alloc (.cells #[] 86)).cell? ⟨g,m1*5+3,none⟩=some (.slice A0 n0 c0):=(tu.out.cell (p:=⟨g,m1*5+3,none⟩) hgq).trans hcq
        have hcB:(wq.alloc (.cells #[.int .i64 ck,.string cs,.int .i64 cn,.slice C0 cl.length Bo,.int .i64 ca] 86)).cell? ⟨g,m1*5+3,none⟩=some (.slice A0 n0 c0):=(((anl wq.heap.size wq).alloc (ank _) _).cell (p:=⟨g,m1*5+3,none⟩) hgq).trans hcq
        have hcC:((wq.alloc (.cells #[] 86)).alloc (.cells #[.int .i64 ck,.string cs,.int .i64 cn,.slice C0 cl.length Bo,.int .i64 ca] 86)).cell? ⟨g,m1*5+3,none⟩=some (.slice A0 n0 c0):=(DD.out.cell (p:=⟨g,m1*5+3,none⟩) hgq).trans hcq
        have hcD:((wq.alloc (.cells #[.int .i64 ck,.string cs,.int .i64 cn,.slice C0 cl.length Bo,.int .i64 ca] 86)).alloc (.cells #[] 86)).cell? ⟨g,m1*5+3,none⟩=some (.slice A0 n0 c0):=(DF.out.cell (p:=⟨g,m1*5+3,none⟩) hgq).trans hcq
        have x0:(wq.alloc (.cells #[] 86)).cell? ⟨g,mt*5,none⟩=some (.int .i64 ck):=(tu.out.cell (p:=⟨g,mt*5,none⟩) hgq).trans y0
        have x1:(wq.alloc (.cells #[] 86)).cell? ⟨g,mt*5+1,none⟩=some (.string cs):=(tu.out.cell (p:=⟨g,mt*5+1,none⟩) hgq).trans y1
        have x2:(wq.alloc (.cells #[] 86)).cell? ⟨g,mt*5+2,none⟩=some (.int .i64 cn):=(tu.out.cell (p:=⟨g,mt*5+2,none⟩) hgq).trans y2
        have x3:(wq.alloc (.cells #[] 86)).cell? ⟨g,mt*5+3,none⟩=some (.slice C0 cl.length Bo):=(tu.out.cell (p:=⟨g,mt*5+3,none⟩) hgq).trans y3
        have x4:(wq.alloc (.cells #[] 86)).cell? ⟨g,mt*5+4,none⟩=some (.int .i64 ca):=(tu.out.cell (p:=⟨g,mt*5+4,none⟩) hgq).trans y4
        have HWS:=anc hws
        go_upto_region 13 with (fail)
        rw [←YA.out]
        clear QZ hcell J6
        have lZ:Hid (∀ w',Below wq.heap.size wq w'→w'.cell? ⟨g,m1*5+3,none⟩=some (.slice A0 n0 c0)∧w'.cell? ⟨g,mt*5,none⟩=some (.int .i64 ck)∧w'.cell? ⟨g,mt*5+1,none⟩=some (.string cs)∧w'.cell? ⟨g,mt*5+2,none⟩=some (.int .i64 cn)∧w'.cell? ⟨g,mt*5+3,none⟩=some (.slice C0 cl.length Bo)∧w'.cell? ⟨g,mt*5+4,none⟩=some (.int .i64 ca)):=anc (fun w' hb=>⟨(hb.cell (p:=⟨g,m1*5+3,none⟩) hgq).trans hcq,(hb.cell (p:=⟨g,mt*5,none⟩) hgq).trans y0,(hb.cell (p:=⟨g,mt*5+1,none⟩) hgq).trans y1,(hb.cell (p:=⟨g,mt*5+2,none⟩) hgq).trans y2,(hb.cell (p:=⟨g,mt*5+3,none⟩) hgq).trans y3,(hb.cell (p:=⟨g,mt*5+4,none⟩) hgq).trans y4⟩)
        refine ai.dU (fun w'=>w'.cell? ⟨g,m1*5+3,none⟩=some (.slice A0 n0 c0)∧w'.cell? ⟨g,mt*5,none⟩=some (.int .i64 ck)∧w'.cell? ⟨g,mt*5+1,none⟩=some (.string cs)∧w'.cell? ⟨g,mt*5+2,none⟩=some (.int .i64 cn)∧w'.cell? ⟨g,mt*5+3,none⟩=some (.slice C0 cl.length Bo)∧w'.cell? ⟨g,mt*5+4,none⟩=some (.int .i64 ca)) 19 (by kernel_rfl) (lZ.out _ (anl _ _).drew) (fun hHeld=>?_)
        refine ai.ae (i:=0) (C:=[0,17,18,19]) (v:=?ajr) rfl (by kernel_rfl) (by kernel_rfl) (by kernel_rfl) (by kernel_rfl) (fun _ _ _ h=>h) (Or.inl ⟨by rfl,?aaP⟩) (by assumption) ?_
        case aaP=>(intro w1 hSw;(try dsimp only at hSw);go_simp;try with_reducible rfl)
        simp only [ane,anf,Act.put,anh,ani,anj]
        refine ai.ae (i:=1) (C:=[1,2,17,18,19]) (v:=?ajs) rfl (by kernel_rfl) (by kernel_rfl) (by kernel_rfl) (by kernel_rfl) (fun _ _ _ h=>h) (Or.inl ⟨by rfl,?aaQ⟩) (by assumption) ?_
        case aaQ=>(intro w1 hSw;(try dsimp only at hSw);go_simp;try with_reducible rfl)
        simp only [ane,ang,anf,Act.put,anh,ani,anj]
        refine ai.ae (i:=2) (C:=[2,17,18,19]) (v:=?ajt) rfl (by kernel_rfl) (by kernel_rfl) (by kernel_rfl) (by kernel_rfl) (fun _ _ _ h=>h) (Or.inl ⟨by rfl,?aaR⟩) (by assumption) ?_
        case aaR=>(intro w1 hSw;(try dsimp only at hSw);go_simp;try with_reducible rfl)
        simp only [ane,ang,anf,Act.put,anh,ani,anj]
        refine ai.ae (i:=4) (C:=[4,7,8,9,10,16,19]) (v:=?aju) rfl (by kernel_rfl) (by kernel_rfl) (by kernel_rfl) (by kernel_rfl) (fun _ _ _ h=>h) (Or.inl ⟨by rfl,?aaS⟩) (by assumption) ?_
        case aaS=>(intro w1 hSw;(try dsimp only at hSw);go_simp;try with_reducible rfl)
        simp only [ane,ang,anf,Act.put,anh,ani,anj]
        refine ai.ae (i:=5) (C:=[5,6,7,8,9,10,16,19]) (v:=?ajv) rfl (by kernel_rfl) (by kernel_rfl) (by kernel_rfl) (by kernel_rfl) (fun _ _ _ h=>h) (Or.inl ⟨by rfl,?aaT⟩) (by assumption) ?_
        case aaT=>(intro w1 hSw;(try dsimp only at hSw);go_simp;try with_reducible rfl)
        simp only [ane,ang,anf,Act.put,anh,ani,anj]
        refine ai.ae (i:=6) (C:=[6,7,8,9,10,16,19]) (v:=?ajw) rfl (by kernel_rfl) (by kernel_rfl) (by kernel_rfl) (by kernel_rfl) (fun _ _ _ h=>h) (Or.inl ⟨by rfl,?aaU⟩) (by assumption) ?_
        case aaU=>(intro w1 hSw;(try dsimp only at hSw);go_simp;try with_reducible rfl)
        simp only [ane,ang,anf,Act.put,anh,ani,anj]
        refine ai.ae (i:=7) (C:=[7,8,9,10,16,19]) (v:=?ajx) rfl (by kernel_rfl) (by kernel_rfl) (by kernel_rfl) (by kernel_rfl) (fun _ _ _ h=>h) (Or.inl ⟨by rfl,?aaV⟩) (by assumption) ?_
        case aaV=>(intro w1 hSw;(try dsimp only at hSw);go_simp;try with_reducible rfl)
        simp only [ane,ang,anf,Act.put,anh,ani,anj]
        refine ai.ae (i:=8) (C:=[8,9,10,16,19]) (v:=?ajy) rfl (by kernel_rfl) (by kernel_rfl) (by kernel_rfl) (by kernel_rfl) (fun _ _ _ h=>h) (Or.inl ⟨by rfl,?aaW⟩) (by assumption) ?_
        case aaW=>(intro w1 hSw;(try dsimp only at hSw);go_simp;try with_reducible rfl)
        simp only [ane,ang,anf,Act.put,anh,ani,anj]
        refine ai.ae (i:=9) (C:=[9,10,16,19]) (v:=?ajz) rfl (by kernel_rfl) (by kernel_rfl) (by kernel_rfl) (by kernel_rfl) (fun _ _ _ h=>h) (Or.inl ⟨by rfl,?aaX⟩) (by assumption) ?_
        case aaX=>(intro w1 hSw;(try dsimp only at hSw);go_simp;try with_reducible rfl)
        simp only [ane,ang,anf,Act.put,anh,ani,anj]
        refine ai.ae (i:=11) (C:=[11,13,14,15,16,19]) (v:=?ag0) rfl (by kernel_rfl) (by kernel_rfl) (by kernel_rfl) (by kernel_rfl) (fun _ _ _ h=>h) (Or.inl ⟨by rfl,?XQ⟩) (by assumption) ?_
        case XQ=>(intro w1 hSw;(try dsimp only at hSw);go_simp;try with_reducible rfl)
        simp only [ane,ang,anf,Act.put,anh,ani,anj]
        refine ai.ae (i:=12) (C:=[12,13,14,15,16,19]) (v:=?ag1) rfl (by kernel_rfl) (by kernel_rfl) (by kernel_rfl) (by kernel_rfl) (fun _ _ _ h=>h) (Or.inl ⟨by rfl,?XR⟩) (by assumption) ?_
        case XR=>(intro w1 hSw;(try dsimp only at hSw);go_simp;try with_reducible rfl)
        simp only [ane,ang,anf,Act.put,anh,ani,anj]
        refine ai.ae (i:=13) (C:=[13,14,15,16,19]) (v:=?ag2) rfl (by kernel_rfl) (by kernel_rfl) (by kernel_rfl) (by kernel_rfl) (fun _ _ _ h=>h) (Or.inl ⟨by rfl,?XT⟩) (by assumption) ?_
        case XT=>(intro w1 hSw;(try dsimp only at hSw);go_simp;try with_reducible rfl)
        simp only [ane,ang,anf,Act.put,anh,ani,anj]
        refine ai.ae (i:=14) (C:=[14,15,16,19]) (v:=?ag3) rfl (by kernel_rfl) (by kernel_rfl) (by kernel_rfl) (by kernel_rfl) (fun _ _ _ h=>h) (Or.inl ⟨by rfl,?XU⟩) (by assumption) ?_
        case XU=>(intro w1 hSw;(try dsimp only at hSw);go_simp;try with_reducible rfl)
        simp only [ane,ang,anf,Act.put,anh,ani,anj]
        refine ai.au (rs:=[3,15]) (by kernel_rfl) (by simp) ?_
        refine ai.ah.cons rfl (fun K hK=>?_) (ai.ah.cons rfl (fun K hK=>?_) ai.ah.nil)
        refine oq _ rfl rfl ?_
        refine hK.out _ _ (lZ.out _ tu.out) (fun hHeld=>?_)
        clear hK K
        simp only [ane,ang,anf,Act.put,anh,ani,anj,World.size_alloc,World.size_drew]
        refine ai.au (rs:=[10,15]) (by kernel_rfl) (by simp) ?_
        refine ai.ah.cons rfl (fun K hK=>?_) (ai.ah.cons rfl (fun K hK=>?_) ai.ah.nil)
        refine bU _ rfl _ _ 84 rfl wq.heap.size 86 i0 _ 5 64 Tryz.underlying84 hi hz0 hz1 hz2 rfl (by decide) _ _ _ rfl hE1.out wr.heap.size A0 n0 c0 (aO qs) rfl hR1.out (bG _) ?a1 ?a2 ?a3 ?_
        case a1=>(unfold maxLen;omega)
        case a2=>omega
        case a3=>(first | omega | (simp;done) | (simp;omega))
        intro v5 w5 hown5 bI gY
        have fV:Hid (w5.ownsRow wq.heap.size 86 5 v5 n0 (aO qs)):=anc (by rw [Nat.zero_add,List.nil_append] at hown5;exact hown5)
        have fP:Hid (Below wq.heap.size wq w5):=anc (tu.out.grown bI tu.out.size (fun k e=>by have he:wq.heap.size+0=k:=Option.some.inj e;omega))
        have hs5:=fP.out.size
        clear hown5 bI gY
        refine hK.out _ _ (lZ.out _ fP.out) (fun hHeld=>?_)
        clear hK K
        simp only [ane,ang,anf,Act.put,anh,ani,anj]
        refine ai.au (rs:=[15]) (by kernel_rfl) (by simp) ?_
        refine ai.ah.cons rfl (fun K hK=>?_) ai.ah.nil
        refine jb _ rfl 57 rfl ck cn ca cs C0 cl.length Bo rfl ?_
        refine hK.out _ _ (lZ.out _ (fP.out.alloc hs5 _)) (fun hHeld=>?_)
        clear hK K
        simp only [ane,ang,anf,Act.put,anh,ani,anj,World.size_alloc,World.size_drew]
        refine ai.au (rs:=[16]) (by kernel_rfl) (by simp) ?_
        refine ai.ah.cons rfl (fun K hK=>?_) ai.ah.nil
        refine bU _ rfl _ _ 84 rfl wq.heap.size 86 i0 _ 5 64 Tryz.underlying84 hi hz0 hz1 hz2 rfl (by decide) _ _ _ rfl (fV.out.alloc _) (w5.heap.size+1) _ _ _ (TP.cs ((.mk ck cs cn cl ca:T),C0,Bo)) rfl ⟨rfl,fun _=>⟨_,rfl,Nat.lt_succ_self _,World.news_of_block (anm w5 _)⟩⟩ ?b1 ?b2 ?b3 ?b4 ?_
        case b1=>(rw [←bD];exact bG _)
        case b2=>(unfold maxLen;omega)
        case b3=>omega
        case b4=>(first | omega | (simp;done) | (simp;omega))
        intro v6 w6 hown6 hgrow6 yB
        obtain ⟨g6,cap6,rfl,Q3,Q4⟩:=hown6.form (Nat.succ_pos _)
        have nU:=anc hown6
        have iP:Hid (Below wq.heap.size wq w6):=anc ((fP.out.alloc hs5 _).grown hgrow6 (fP.out.alloc hs5 _).size (fun k e=>(fV.out.lt k e).1))
        have hc6:w6.cell? ⟨g,m1*5+3,none⟩=some (.slice A0 n0 c0):=(iP.out.cell (p:=⟨g,m1*5+3,none⟩) hgq).trans hcq
        have QL:w6.frozen? ⟨g,m1*5+3,none⟩=false:=(iP.out.frozen (p:=⟨g,m1*5+3,none⟩) hgq).trans hfq
        clear hown6 hgrow6 yB
        refine hK.out _ _ (lZ.out _ iP.out) (fun hHeld=>?_)
        clear hK K
        simp only [ane,ang,anf,Act.put,anh,ani,anj]
        refine ai.ae (i:=17) (C:=[17,18,19]) (v:=?ag4) rfl (by kernel_rfl) (by kernel_rfl) (by kernel_rfl) (by kernel_rfl) (fun _ _ _ h=>h) (Or.inl ⟨by rfl,?XV⟩) (by assumption) ?_
        case XV=>(intro w1 hSw;(try dsimp only at hSw);go_simp;try with_reducible rfl)
        simp only [ane,ang,anf,Act.put,anh,ani,anj]
        refine ai.ae (i:=18) (C:=[18,19]) (v:=?ag5) rfl (by kernel_rfl) (by kernel_rfl) (by kernel_rfl) (by kernel_rfl) (fun _ _ _ h=>h) (Or.inl ⟨by rfl,?XW⟩) (by assumption) ?_
        case XW=>(intro w1 hSw;(try dsimp only at hSw);go_simp;try with_reducible rfl)
        simp only [ane,ang,anf,Act.put,anh,ani,anj]
        refine ai.au (rs:=[19]) (by kernel_rfl) (by simp) ?_
        refine ai.ah.last rfl (fun K hK=>?_)
        simp only [ane,ang,anf]
        go_simp
        refine hK.out _ _ ?_
        clear hK K
        refine ai.dw (by kernel_rfl) ?_ _
        rotate_left
        refine jb _ rfl 57 rfl ck cn ca cs C0 cl.length Bo rfl ?_
        refine hK.out _ _ (lZ.out _ DD.out) (fun hHeld=>?_)
        clear hK K
        simp only [ane,ang,anf,Act.put,anh,ani,anj,World.size_alloc,World.size_drew]
        refine ai.au (rs:=[10]) (by kernel_rfl) (by simp) ?_
        refine ai.ah.cons rfl (fun K hK=>?_) ai.ah.nil
        refine bU _ rfl _ _ 84 rfl wq.heap.size 86 i0 _ 5 64 Tryz.underlying84 hi hz0 hz1 hz2 rfl (by decide) _ _ _ rfl hE2.out wr.heap.size A0 n0 c0 (aO qs) rfl hR2.out (bG _) ?a1 ?a2 ?a3 ?_
        case a1=>(unfold maxLen;omega)
        case a2=>omega
        case a3=>(first | omega | (simp;done) | (simp;omega))
        intro v5 w5 hown5 bI gY
        have fV:Hid (w5.ownsRow wq.heap.size 86 5 v5 n0 (aO qs)):=anc (by rw [Nat.zero_add,List.nil_append] at hown5;exact hown5)
        have fP:Hid (Below wq.heap.size wq w5):=anc (DD.out.grown bI DD.out.size (fun k e=>by have he:wq.heap.size+0=k:=Option.some.inj e;omega))
        have hs5:=fP.out.size
        have qW:=anc ((bI.block (wq.heap.size+1) (by first | omega | (simp;done) | (simp;omega)) (fun e=>by have he:wq.heap.size+1=wq.heap.size:=Option.some.inj e;omega)).trans hX2.out)
        clear hown5 bI gY
        refine hK.out _ _ (lZ.out _ fP.out) (fun hHeld=>?_)
        clear hK K
        simp only [ane,ang,anf,Act.put,anh,ani,anj]
        refine ai.au (rs:=[16]) (by kernel_rfl) (by simp) ?_
        refine ai.ah.cons rfl (fun K hK=>?_) ai.ah.nil
        refine bU _ rfl _ _ 84 rfl wq.heap.size 86 i0 _ 5 64 Tryz.underlying84 hi hz0 hz1 hz2 rfl (by decide) _ _ _ rfl fV.out (wq.heap.size+1+1) _ _ _ (TP.cs ((.mk ck cs cn cl ca:T),C0,Bo)) rfl ⟨rfl,fun _=>⟨_,rfl,Nat.lt_succ_self _,World.news_of_block qW.out⟩⟩ ?b1 ?b2 ?b3 ?b4 ?_
        case b1=>(rw [←bD];exact bG _)
        case b2=>(unfold maxLen;omega)
        case b3=>omega
        case b4=>(first | omega | (simp;done) | (simp;omega))
        intro v6 w6 hown6 hgrow6 yB
        obtain ⟨g6,cap6,rfl,Q3,Q4⟩:=hown6.form (Nat.succ_pos _)
        have nU:=anc hown6
        have iP:Hid (Below wq.heap.size wq w6):=anc (fP.out.grown hgrow6 fP.out.size (fun k e=>(fV.out.lt k e).1))
        have hc6:w6.cell? ⟨g,m1*5+3,none⟩=some (.slice A0 n0 c0):=(iP.out.cell (p:=⟨g,m1*5+3,none⟩) hgq).trans hcq
        have QL:w6.frozen? ⟨g,m1*5+3,none⟩=false:=(iP.out.frozen (p:=⟨g,m1*5+3,none⟩) hgq).trans hfq
        clear hown6 hgrow6 yB
        refine hK.out _ _ (lZ.out _ iP.out) (fun hHeld=>?_)
        clear hK K
        simp only [ane,ang,anf,Act.put,anh,ani,anj]
        refine ai.ae (i:=17) (C:=[17,18,19]) (v:=?ag6) rfl (by kernel_rfl) (by kernel_rfl) (by kernel_rfl) (by kernel_rfl) (fun _ _ _ h=>h) (Or.inl ⟨by rfl,?XX⟩) (by assumption) ?_
        case XX=>(intro w1 hSw;(try dsimp only at hSw);go_simp;try with_reducible rfl)
        simp only [ane,ang,anf,Act.put,anh,ani,anj]
        refine ai.ae (i:=18) (C:=[18,19]) (v:=?ag7) rfl (by kernel_rfl) (by kernel_rfl) (by kernel_rfl) (by kernel_rfl) (fun _ _ _ h=>h) (Or.inl ⟨by rfl,?XY⟩) (by assumption) ?_
        case XY=>(intro w1 hSw;(try dsimp only at hSw);go_simp;try with_reducible rfl)
        simp only [ane,ang,anf,Act.put,anh,ani,anj]
        refine ai.au (rs:=[19]) (by kernel_rfl) (by simp) ?_
        refine ai.ah.last rfl (fun K hK=>?_)
        simp only [ane,ang,anf]
        go_simp
        refine hK.out _ _ ?_
        clear hK K
        refine ai.dw (by kernel_rfl) ?_ _
        rotate_left
        refine jb _ rfl 57 rfl ck cn ca cs C0 cl.length Bo rfl ?_
        refine hK.out _ _ (lZ.out _ (((anl wq.heap.size wq).alloc (ank _) _).drew)) (fun hHeld=>?_)
        clear hK K
        simp only [ane,ang,anf,Act.put,anh,ani,anj,World.size_alloc,World.size_drew]
        refine ai.au (rs:=[3]) (by kernel_rfl) (by simp) ?_
        refine ai.ah.cons rfl (fun K hK=>?_) ai.ah.nil
        refine oq _ rfl rfl ?_
        refine hK.out _ _ (lZ.out _ DF.out) (fun hHeld=>?_)
        clear hK K
        simp only [ane,ang,anf,Act.put,anh,ani,anj,World.size_alloc,World.size_drew]
        refine ai.au (rs:=[10]) (by kernel_rfl) (by simp) ?_
        refine ai.ah.cons rfl (fun K hK=>?_) ai.ah.nil
        refine bU _ rfl _ _ 84 rfl wq.heap.size 86 i0 _ 5 64 Tryz.underlying84 hi hz0 hz1 hz2 rfl (by decide) _ _ _ rfl VN.out wr.heap.size A0 n0 c0 (aO qs) rfl VM.out (bG _) ?a1 ?a2 ?a3 ?_
        case a1=>(unfold maxLen;omega)
        case a2=>omega
        case a3=>(first | omega | (simp;done) | (simp;omega))
        intro v5 w5 hown5 bI gY
        have fV:Hid (w5.ownsRow wq.heap.size 86 5 v5 n0 (aO qs)):=anc (by rw [Nat.zero_add,List.nil_append] at hown5;exact hown5)
        have fP:Hid (Below wq.heap.size wq w5):=anc (DF.out.grown bI DF.out.size (fun k e=>by have he:wq.heap.size+1=k:=Option.some.inj e;omega))
        have hs5:=fP.out.size
        have qW:=anc ((bI.block wq.heap.size (by first | omega | (simp;done) | (simp;omega)) (fun e=>by have he:wq.heap.size=wq.heap.size+1:=Option.some.inj e;omega)).trans hX3.out)
        clear hown5 bI gY
        refine hK.out _ _ (lZ.out _ fP.out) (fun hHeld=>?_)
        clear hK K
        simp only [ane,ang,anf,Act.put,anh,ani,anj]
        refine ai.au (rs:=[16]) (by kernel_rfl) (by simp) ?_
        refine ai.ah.cons rfl (fun K hK=>?_) ai.ah.nil
        refine bU _ rfl _ _ 84 rfl wq.heap.size 86 i0 _ 5 64 Tryz.underlying84 hi hz0 hz1 hz2 rfl (by decide) _ _ _ rfl fV.out (wq.heap.size+1) _ _ _ (TP.cs ((.mk ck cs cn cl ca:T),C0,Bo)) rfl ⟨rfl,fun _=>⟨_,rfl,Nat.lt_succ_self _,World.news_of_block qW.out⟩⟩ ?b1 ?b2 ?b3 ?b4 ?_
        case b1=>(rw [←bD];exact bG _)
        case b2=>(unfold maxLen;omega)
        case b3=>omega
        case b4=>(first | omega | (simp;done) | (simp;omega))
        intro v6 w6 hown6 hgrow6 yB
        obtain ⟨g6,cap6,rfl,Q3,Q4⟩:=hown6.form (Nat.succ_pos _)
        have nU:=anc hown6
        have iP:Hid (Below wq.heap.size wq w6):=anc (fP.out.grown hgrow6 fP.out.size (fun k e=>(fV.out.lt k e).1))
        have hc6:w6.cell? ⟨g,m1*5+3,none⟩=some (.slice A0 n0 c0):=(iP.out.cell (p:=⟨g,m1*5+3,none⟩) hgq).trans hcq
        have QL:w6.frozen? ⟨g,m1*5+3,none⟩=false:=(iP.out.frozen (p:=⟨g,m1*5+3,none⟩) hgq).trans hfq
        clear hown6 hgrow6 yB
        refine hK.out _ _ (lZ.out _ iP.out) (fun hHeld=>?_)
        clear hK K
        simp only [ane,ang,anf,Act.put,anh,ani,anj]
        refine ai.ae (i:=17) (C:=[17,18,19]) (v:=?ag8) rfl (by kernel_rfl) (by kernel_rfl) (by kernel_rfl) (by kernel_rfl) (fun _ _ _ h=>h) (Or.inl ⟨by rfl,?XZ⟩) (by assumption) ?_
        case XZ=>(intro w1 hSw;(try dsimp only at hSw);go_simp;try with_reducible rfl)
        simp only [ane,ang,anf,Act.put,anh,ani,anj]
        refine ai.ae (i:=18) (C:=[18,19]) (v:=?ag9) rfl (by kernel_rfl) (by kernel_rfl) (by kernel_rfl) (by kernel_rfl) (fun _ _ _ h=>h) (Or.inl ⟨by rfl,?X0⟩) (by assumption) ?_
        case X0=>(intro w1 hSw;(try dsimp only at hSw);go_simp;try with_reducible rfl)
        simp only [ane,ang,anf,Act.put,anh,ani,anj]
        refine ai.au (rs:=[19]) (by kernel_rfl) (by simp) ?_
        refine ai.ah.last rfl (fun K hK=>?_)
        simp only [ane,ang,anf]
        go_simp
        refine hK.out _ _ ?_
        clear hK K
        refine ai.dw (by kernel_rfl) ?_ _
        rotate_left
        all_goals
         go_wp2_with fail
         go_roundw
         case measure=>simp [intOf];omega
         case rel =>
          obtain ⟨r1,r2⟩:=FM (x:=((.mk ck cs cn cl ca:T),C0,Bo)) (n1:=n0+1) (m1:=m1) (i2:=j+1) HO.out jI.out DX.out hxk.out (qZ.out.trans (iP.out.mono qZ.out.size)) HQ.out.1 HQ.out.2.2 (HCK.out.1.good (by omega)) HCK.out.2 nU.out qZ.out.size (by rw [htn]) (by omega) (by omega) (by omega) hs1
          refine ⟨j+1,mt,g,cap,_,by omega,by go_num,rfl,by have:=HM1.out;omega,by omega,?_,IA r1 (by rw [List.length_set];exact jI.out) (Nat.le_of_lt l2),anc (fun p hp=>r2 p (List.mem_of_mem_take hp)),(HB.out.trans ((qZ.out.trans (iP.out.mono qZ.out.size)).mono hs1)).setCell (p:=⟨g,m1*5+3,none⟩) aaD _,anc ((hdp.out.kid DX.out ((hdp.out.top HPC.out).mono (by have:=HM1.out;omega))).take mt),anc (hex.out.close hlt (by rw [hcc];exact h32) (by rw [hcc];exact h10) (by rw [hcc];exact KI) jI.out HM1.out DX.out HPC.out)⟩
          rw [List.length_take,List.length_set,jI.out]
          omega
       ·as_aux_lemma =>
        obtain ⟨⟨k0,k1,k2,k3,k4⟩,f0,f1,f2,f3,f4⟩:=ay hBw.out
        go_wp2_with fail
        refine ano (dV rfl rfl rfl rfl (aB hBw.out)) rfl ?_
        exact ⟨gq (hex.out.U5 hlt (by rw [hcc];exact h32) (by rw [hcc];exact h10) (by rw [hcc];exact KI) jI.out (by have:=hm0;simp at this;omega)) _ _ _ _,aC (HB1.out.trans (HB.out.mono (by omega))) (ank _)⟩
     ·go_wp2_with fail
      go_roundw
      case rel=>exact ⟨j+1,m,g,cap,ps,by omega,by go_num,rfl,hm1,hm2,jI.out,HO.out,anc (fun p hp=>⟨(hxk.out p hp).1.more (Nat.le_succ _),(hxk.out p hp).2⟩),HB.out,hdp,anc (hex.out.agQ hlt (by rw [hcc];exact h32) (by rw [hcc];exact h10))⟩
      case measure=>simp [intOf];omega
    ·go_wp2_with fail
     go_roundw
     case rel=>exact ⟨j+1,m,g,cap,ps,by omega,by go_num,rfl,hm1,hm2,jI.out,HO.out,anc (fun p hp=>⟨(hxk.out p hp).1.more (Nat.le_succ _),(hxk.out p hp).2⟩),HB.out,hdp,anc (hex.out.agP hlt (by rw [hcc];exact h32))⟩
     case measure=>simp [intOf];omega
   ·cases J5:decide (1<(m:Int))
    ·as_aux_lemma =>
     obtain rfl:m=1:=by simp at J5;omega
     obtain ⟨p0,hp0⟩:∃ p0,ps[0]?=some p0:=⟨_,anr (by rw [jI.out];decide)⟩
     obtain ⟨_,_,_,c3,_,_⟩:=jW HO.out jI.out hp0
     obtain ⟨ho0,hc0,hx0⟩:=hxk.out p0 (anq hp0)
     have hd0:=hdp.out 0 p0 hp0
     have HP0:=anc hp0
     clear hp0
     obtain ⟨⟨tk,ts,tn,tl,ta⟩,A0,c0⟩:=p0
     simp only [T.kids] at c3 hx0 hc0
     cases tl with
     | nil =>
       simp only [List.length_nil] at c3
       obtain ⟨⟨k0,k1,k2,k3,k4⟩,f0,f1,f2,f3,f4⟩:=ay hBw.out
       go_wp2_with fail
       refine ano (dV rfl rfl rfl rfl (aB hBw.out)) rfl ?_
       exact ⟨gq (hex.out.XJ hlt jI.out HP0.out) _ _ _ _,aC (HB1.out.trans (HB.out.mono (by omega))) (ank _)⟩
     | cons x tl =>
       obtain ⟨b,o,A',c',rfl,hSb,x0,x1,x2,x3,x4,hcx,hxx⟩:=hx0.cu (i:=0) (e:=x) rfl
       have hgx:x.Good:=ho0.2.2.2.2 x List.mem_cons_self
       obtain ⟨n0,hn0⟩:∃ n0,(x::tl).length=n0+1:=⟨tl.length,rfl⟩
       rw [hn0] at c3
       have hn1:(((n0+1:Nat):Int)==0)=false:=by simp;omega
       have hHX:=anc hxx
       have hGX:=anc (And.intro hgx (hd0 x List.mem_cons_self))
       clear hx0 ho0 hc0 hn0 hxx hgx hd0
       obtain ⟨xk,xs,xn,xl,xa⟩:=x
       simp only [T.k,T.s,T.n,T.kids,T.at_,Nat.zero_mul,Nat.add_zero] at x0 x1 x2 x3 x4 hcx hHX
       generalize hxm:xl.length=xm at *
       obtain ⟨⟨k0,k1,k2,k3,k4⟩,f0,f1,f2,f3,f4⟩:=ay hBw.out
       go_wp2_with fail
       refine ano (dV rfl rfl rfl rfl (aB hBw.out)) rfl ?_
       refine ⟨⟨.mk xk xs xn xl xa,A',c',0,0,by simp only [T.val,T.k,T.s,T.n,T.kids,T.at_,hxm];rfl,hGX.out,by simp only [T.kids,hxm];exact hcx,?_,fun r hr=>⟨rfl,hex.out.end_ hlt jI.out HP0.out r hr⟩⟩,aC (HB1.out.trans (HB.out.mono (by omega))) (ank _)⟩
       exact (hHX.out.kept fun k hk=>kZ (by have:=hk.1;omega)).mono fun k hk=>⟨by have:=hk.1;omega,anu hk.2.1 oW.symm⟩
    ·as_aux_lemma =>
     obtain ⟨⟨k0,k1,k2,k3,k4⟩,f0,f1,f2,f3,f4⟩:=ay hBw.out
     go_wp2_with fail
     refine ano (dV rfl rfl rfl rfl (aB hBw.out)) rfl ?_
     exact ⟨gq (hex.out.XK hlt (by rw [jI.out];have:=J5;simp at this;omega)) _ _ _ _,aC (HB1.out.trans (HB.out.mono (by omega))) (ank _)⟩
 ·as_aux_lemma =>
  clear aK hb1
  go_enter Tryz.func39,Tryz.ntmps39
  go_upto_region 1 with (fail)
  rw [←HW1.out]
  obtain ⟨⟨k0,k1,k2,k3,k4⟩,f0,f1,f2,f3,f4⟩:=ay hB.out
  go_wp2_with fail
  refine ano (dV rfl rfl rfl rfl (aB hB.out)) rfl ?_
  exact ⟨gq (QY.long (by simp at QN;omega)) _ _ _ _,aC HB1.out (ank _)⟩
end Go.Proofs.YtjhkihkiebnpaaaGreatDoor
