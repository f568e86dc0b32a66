/-
  Package sexp's reader, whole: it computes what readE says; the tree lies in new memory.
-/
import Derived.Test.YtjhkihkiebnpaaaGreatDoorMj0
import Derived.Test.YtjhkihkiebnpaaaGreatDoorMj12
import Derived.Test.YtjhkihkiebnpaaaGreatDoorMj3
import Derived.Test.YtjhkihkiebnpaaaGreatDoorMj4
import Derived.Laws.StructEq
import Derived.Test.YtjhkihkiebnpaaaGreatDoorMj2
import Derived.Lib.SlicesCompact
import Derived.Deep.DeepCutAuto
import Derived.IntWalk
set_option linter.unusedVariables false
set_option linter.unusedSimpArgs false
set_option maxRecDepth 100000
set_option maxHeartbeats 40000000
namespace Go.Proofs.YtjhkihkiebnpaaaGreatDoor
open Go.RowKit
theorem results_read {fn:Func} {p q r:Tmp} (h:fn.results=#[.cell p 71,.tmp q,.tmp r]) {tmps:Array Value} {w:World} {g:Nat} {x0 x1 x2 x3 x4 a b:Value} {t:TypeId}
 (hp:tmps.getD p undef=.pointer (some ⟨g,0,none⟩))(hq:tmps.getD q undef=a)(hr:tmps.getD r undef=b)(hg:w.heap[g]?=some (.cells #[x0,x1,x2,x3,x4] t (0,0))):(results fn tmps).run Tryz.prog w=.ok (.tuple #[.agg #[x0,x1,x2,x3,x4],a,b]) w:=by
 have hp':tmps[p]?.getD undef=.pointer (some ⟨g,0,none⟩):=by simpa using hp
 have hq':tmps[q]?.getD undef=a:=by simpa using hq
 have hr':tmps[r]?.getD undef=b:=by simpa using hr
 have hl:=run_loadVar_row (P:=Tryz.prog) w g t 71 #[x0,x1,x2,x3,x4] (0,0) _ hg Tryz.underlying71 rfl (by show _=some 5;kernel_rfl)
 simp[results,h,hp',hq',hr',asAddr,hl]
def Jq (w:World)(R:T×Int×Int)(e:Ending)(w':World):Prop:=∃ (A:Option Addr)(c:Nat),
 e=.returned (.tuple #[.agg #[.int .i64 R.1.k,.string R.1.s,.int .i64 R.1.n,.slice A R.1.kids.length c,.int .i64 R.1.at_],.int .i64 R.2.1,.int .i64 R.2.2])∧R.1.kids.length≤c∧mQ w' (fun k=>w.heap.size≤k∧k<w'.heap.size) A R.1.kids
theorem Jq.none_ {w w':World} {R:T×Int×Int} {e:Ending} {why place:Int} (h:R=(dW,why,place))(he:e=.returned (.tuple #[.agg #[.int .i64 0,.string ⟨#[]⟩,.int .i64 0,.slice none 0 0,.int .i64 0],.int .i64 why,.int .i64 place])):Jq w R e w':=by
 subst h
 exact⟨none,0,he,aF _,.nil _⟩
structure RD (s:ByteArray)(w:World)(R:T×Int×Int)(l i:Nat) (σ:St)(w1:World):Prop where
 inv:RInv s w σ w1
 is:i≤s.size
 run:fZ s (σ.ps.map Prod.fst) (σ.dn.map Prod.fst) i=R
 few:σ.ps.length≤12
 kids:∀ p∈σ.ps,p.1.kids.length≤i
 lab:l=1∨(l=0∧¬i<s.size)∨(l=2∧i<s.size∧((bt s i).toNat:Int)=40)∨(l=3∧i<s.size∧((bt s i).toNat:Int)=41)
def RJ (s:ByteArray)(w:World)(R:T×Int×Int)(n l:Nat)(a:Act)(w1:World):Prop:=∃ (i:Nat)(q:Int) (σ:St),Pg s w.heap.size (w.heap.size+1) q a∧q=(i:Int)∧n=2*(s.size-i)+(if l=1 then 1 else 0)∧Hid (RD s w R l i σ w1)
theorem Tf (hP:wR)(hH:zI)(s:ByteArray)(hs:s.size≤600)(w:World)(hE:Errs w):Calls Tryz.prog 29 #[.string s] w fun e w'=>Jq w (fZ s [] [] 0) e w'∧Below w.heap.size w w':=by
 obtain⟨R,hR⟩:∃ R,R=fZ s [] [] 0:=⟨_,rfl⟩
 rw[←hR]
 have HRR:=ae hR
 obtain⟨w1,dZ⟩:∃ w1,w1=w.alloc (.cells #[.int .i64 0,.string ⟨#[]⟩,.int .i64 0,.slice none 0 0,.int .i64 0] 71):=⟨_,rfl⟩
 have hb1:Below w.heap.size w w1:=by rw[dZ];exact (aG _ _).alloc (aF _) _
 have hs1:w1.heap.size=w.heap.size+1:=by rw[dZ];simp
 have hx1:w1.heap[w.heap.size]?=some (.cells #[.int .i64 0,.string ⟨#[]⟩,.int .i64 0,.slice none 0 0,.int .i64 0] 71 (0,0)):=by rw[dZ];exact aH w _
 obtain⟨w2,AQ⟩:∃ w2,w2=w1.alloc (.cells #[.string s,.slice none 0 0,.slice none 0 0] 102):=⟨_,rfl⟩
 have hb2:Below w1.heap.size w1 w2:=by rw[AQ];exact (aG _ _).alloc (aF _) _
 have hs2:w2.heap.size=w.heap.size+1+1:=by rw[AQ];simp;omega
 have hg2:w2.heap[w.heap.size+1]?=some (.cells #[.string s,.slice none 0 0,.slice none 0 0] 102 (0,0)):=by rw[AQ,←hs1];exact aH w1 _
 have HI0:Hid (RInv s w ⟨[],[],none,0,none,0⟩ w2):=ae ⟨hb1.trans (hb2.mono (by omega)),by omega,(hb2.block _ (by omega)).trans hx1,hg2,⟨rfl,.inl ⟨rfl,rfl⟩⟩,⟨rfl,.inl ⟨rfl,rfl⟩⟩,fun k hk=>absurd hk pJ,fun p hp=>(by cases hp),fun i j p q hi=>(by simp at hi),fun p hp=>(by cases hp),fun q hq=>(by cases hq),.inl rfl,fun _=>⟨rfl,rfl⟩⟩
 have HW1:=ae dZ
 have HW2:=ae AQ
 have HE:=ae hE
 have Ti:decide (600<(s.size:Int))=false:=by simp;omega
 clear dZ AQ hb1 hb2 hx1 hg2 hE hR
 go_enter Tryz.func29,Tryz.ntmps29
 go_upto_region 1 with (fail)
 rw[←HW1.o]
 go_wp2_with fail
 clear Ti
 refine EM (RJ s w R) (fun hlab=>?_) (fun n l a w3 hJ=>?_)
 ·have HLB:=ae (fun n=>hlab n 1 _ rfl)
  clear hlab
  go_wp2_with fail
  refine wp_label ?_
  simp only[Exit.then]
  rename_i hK0
  rw[←HW2.o]
  refine hK0 _ _ (HLB.o (2*(s.size-0)+(if (1:Nat)=1 then 1 else 0)) _ _ ?_)
  exact⟨0,0,⟨[],[],none,0,none,0⟩,⟨_,rfl,by kernel_rfl,by kernel_rfl,by kernel_rfl,by kernel_rfl,by kernel_rfl⟩,rfl,rfl,ae ⟨HI0.o,aX _,HRR.o.symm,by decide,fun p hp=>(by cases hp),.inl rfl⟩⟩
 ·obtain⟨i,q,σ,hfr,rfl,rfl,hD⟩:=hJ
  obtain⟨u,rfl⟩:=hfr.form
  clear hfr
  clear HI0 HW1 HW2 hs1 hs2
  have hlab:=hD.o.lab
  have hrd:=hD.o.inv.rd
  have hsz:=hD.o.inv.size
  have Jr:=ae hD.o.inv.low
  have Gt:=ae hD.o.inv.res
  have LV:=ae hD.o.run
  have Js:=ae hrd
  have his:=hD.o.is
  have UJ:=ae (HE.o.below Jr.o)
  have ha1:w3.cell? ⟨w.heap.size+1,1,none⟩=some (.slice σ.A σ.ps.length σ.c):=by simp[World.cell?,hrd]
  have ha2:w3.cell? ⟨w.heap.size+1,2,none⟩=some (.slice σ.B σ.dn.length σ.cB):=by simp[World.cell?,hrd]
  have hwh:=ae (Iw hrd)
  obtain⟨⟨z0,z1,z2,z3,z4⟩,y0,y1,y2,y3,y4⟩:=dN Gt.o
  clear hrd
  rcases hlab with rfl|⟨rfl,hl0⟩|⟨rfl,hl0,hl1⟩|⟨rfl,hl0,hl1⟩
  ·refine⟨_,rfl,?_⟩
   by_cases hlt:i<s.size
   ·have oN:=ae (uw hlt)
    have hge:decide ((s.size:Int)≤(i:Int))=false:=by simp;omega
    cases h32:((s[i].toNat:Int)==32)
    ·have n32:=ae (show ¬((bt s i).toNat:Int)=32 by rw[oN.o];simpa using h32)
     cases h10:((s[i].toNat:Int)==10)
     ·have n10:=ae (show ¬((bt s i).toNat:Int)=10 by rw[oN.o];simpa using h10)
      cases zZ:((s[i].toNat:Int)==40)
      ·have n40:=ae (show ¬((bt s i).toNat:Int)=40 by rw[oN.o];simpa using zZ)
       cases Oj:((s[i].toNat:Int)==41)
       ·have n41:=ae (show ¬((bt s i).toNat:Int)=41 by rw[oN.o];simpa using Oj)
        have hone:=one_any hP hH s i hlt hs (w.heap.size+1) σ.dn.length σ.cB σ.B (.slice σ.A σ.ps.length σ.c) w3 UJ.o Js.o
        have hend:=D8 (s:=s) (decide (0<σ.dn.length)) hlt
        have HBAD:=ae (fun hw=>(Ho (op:=σ.ps.map Prod.fst) (dn:=σ.dn.map Prod.fst) hlt n32.o n10.o n40.o n41.o hw))
        have LX:=ae (fun hw=>(Ea (op:=σ.ps.map Prod.fst) (dn:=σ.dn.map Prod.fst) hlt n32.o n10.o n40.o n41.o hw))
        rw[bM] at HBAD LX
        have HDL:Hid (decide (0<σ.dn.length)=false→σ.dn=[]):=ae (fun h=>by simp at h;exact h)
        generalize hrr:iT s i (decide (0<σ.dn.length))=r at *
        obtain⟨t,en,why,pl⟩:=r
        simp only at hend HBAD LX
        unfold ZV at hone
        simp only at hone
        have aih:=ae hone
        have VU:=ae hend
        clear hone hend hrr n32 n10 n40 n41 oN
        go_wp2_with fail
        refine (aih.o).mono ?_
        rintro e w4 ⟨⟨rfl,hkids⟩,hb4⟩
        obtain⟨w5,yx⟩:∃ w5,w5=w4.alloc (.cells #[.int .i64 t.k,.string t.s,.int .i64 t.n,.slice none 0 0,.int .i64 t.at_] 71):=⟨_,rfl⟩
        have hb5:Below w4.heap.size w4 w5:=by rw[yx];exact (aG _ _).alloc (aF _) _
        have Yn:w5.heap[w4.heap.size]?=some (.cells #[.int .i64 t.k,.string t.s,.int .i64 t.n,.slice none 0 0,.int .i64 t.at_] 71 (0,0)):=by rw[yx];exact aH w4 _
        have oI:=(hD.o.inv.below hb4).below hb5
        have LY:=ae (fun hd=>add_any oI (t,none,0) ⟨by simp only[hkids];exact aF _,by simp only[hkids];exact .nil _⟩ hD.o.few (fun p hp=>by have:=hD.o.kids p hp;omega) hd)
        simp only[hkids,List.length_nil] at LY
        have wU:=ae oI
        have Gt:=ae oI.res
        have Jr:=ae oI.low
        have Qh:=ae Yn
        have Ue:=ae yx
        have HKT:=ae hkids
        clear hb4 hb5 Yn oI yx hkids z0 z1 z2 z3 z4 y0 y1 y2 y3 y4
        go_upto_region 13 with (fail)
        rw[←Ue.o]
        by_cases hy:why=0
        ·subst hy
         obtain⟨he1,he2,hwf⟩:=VU.o.2.1 rfl
         have hdn:=HDL.o hwf
         have hadd:=ae (LY.o (fun _=>hdn))
         have CQ:=ae ((LX.o rfl).symm.trans LV.o)
         obtain⟨⟨k0,k1,k2,k3,k4⟩,_,_,_,_,_⟩:=dN Qh.o
         clear LY HBAD LX HDL
         go_wp2_with fail
         refine (hadd.o).mono ?_
         rintro e w6 ⟨rfl,σ2,qK,EO,hlen2,_,L6⟩
         have hlen3:σ2.ps.length≤12:=by rw[hlen2];exact hD.o.few
         have yO:=ae qK
         have HRU:Hid (fZ s (σ2.ps.map Prod.fst) (σ2.dn.map Prod.fst) en.toNat=R):=ae (by
          have h1:=congrArg Prod.fst EO
          have h2:=congrArg Prod.snd EO
          simp only at h1 h2
          rw[h1,h2]
          exact CQ.o)
         have Nu:Hid (∀ p∈σ2.ps,p.1.kids.length≤en.toNat):=ae (fun p hp=>by
          obtain⟨p0,hp0,h⟩:=L6 p hp
          have:=hD.o.kids p0 hp0
          omega)
         clear qK EO hlen2 L6 hdn
         go_wp2_with fail
         go_step3
         (try simp only[Exit.inBlock,Exit.then,eQ])
         refine⟨2*(s.size-(en.toNat))+(if (1:Nat)=1 then 1 else 0),?_,en.toNat,en,σ2,⟨_,rfl,by kernel_rfl,by kernel_rfl,by kernel_rfl,by kernel_rfl,by kernel_rfl⟩,?_,rfl,ae (⟨yO.o,by omega,HRU.o,hlen3,Nu.o,.inl rfl⟩)⟩
         ·simp only[if_true,reduceCtorEq,Nat.reduceEqDiff,if_false];omega
         ·omega
        ·have hyb:(why != 0)=true:=by simpa using hy
         have HQ:=ae ((LV.o.symm.trans (HBAD.o hy)))
         obtain⟨⟨z0,z1,z2,z3,z4⟩,y0,y1,y2,y3,y4⟩:=dN Gt.o
         clear LY HBAD LX HDL hy
         go_wp2_with fail
         (try simp only[Exit.inBlock,Exit.then,eQ])
         refine aJ (results_read rfl rfl rfl rfl (dR Gt.o)) rfl ?_
         exact⟨.none_ (HQ.o) rfl,dS Jr.o (aF _)⟩
       ·have y41:=ae (show ((bt s i).toNat:Int)=41 by rw[oN.o];simpa using Oj)
        go_wp2_with fail
        go_step3
        (try simp only[Exit.inBlock,Exit.then,eQ])
        refine⟨2*(s.size-(i))+(if (3:Nat)=1 then 1 else 0),?_,i,(i:Int),σ,⟨_,rfl,by kernel_rfl,by kernel_rfl,by kernel_rfl,by kernel_rfl,by kernel_rfl⟩,?_,rfl,ae (⟨hD.o.inv,his,hD.o.run,hD.o.few,hD.o.kids,.inr (.inr (.inr ⟨rfl,hlt,y41.o⟩))⟩)⟩
        ·simp only[if_true,reduceCtorEq,Nat.reduceEqDiff,if_false];omega
        ·omega
      ·have y40:=ae (show ((bt s i).toNat:Int)=40 by rw[oN.o];simpa using zZ)
       go_wp2_with fail
       go_step3
       (try simp only[Exit.inBlock,Exit.then,eQ])
       refine⟨2*(s.size-(i))+(if (2:Nat)=1 then 1 else 0),?_,i,(i:Int),σ,⟨_,rfl,by kernel_rfl,by kernel_rfl,by kernel_rfl,by kernel_rfl,by kernel_rfl⟩,?_,rfl,ae (⟨hD.o.inv,his,hD.o.run,hD.o.few,hD.o.kids,.inr (.inr (.inl ⟨rfl,hlt,y40.o⟩))⟩)⟩
       ·simp only[if_true,reduceCtorEq,Nat.reduceEqDiff,if_false];omega
       ·omega
     ·have CQ:=ae ((vG (op:=σ.ps.map Prod.fst) (dn:=σ.dn.map Prod.fst) hlt (.inr (by rw[oN.o];simpa using h10))).symm.trans LV.o)
      go_wp2_with fail
      go_step3
      (try simp only[Exit.inBlock,Exit.then,eQ])
      refine⟨2*(s.size-(i+1))+(if (1:Nat)=1 then 1 else 0),?_,i+1,((i:Int)+1),σ,⟨_,rfl,by kernel_rfl,by kernel_rfl,by kernel_rfl,by kernel_rfl,by kernel_rfl⟩,?_,rfl,ae (⟨hD.o.inv,by omega,CQ.o,hD.o.few,fun p hp=>Nat.le_succ_of_le (hD.o.kids p hp),.inl rfl⟩)⟩
      ·simp only[if_true,reduceCtorEq,Nat.reduceEqDiff,if_false];omega
      ·omega
    ·have CQ:=ae ((vG (op:=σ.ps.map Prod.fst) (dn:=σ.dn.map Prod.fst) hlt (.inl (by rw[oN.o];simpa using h32))).symm.trans LV.o)
     go_wp2_with fail
     go_step3
     (try simp only[Exit.inBlock,Exit.then,eQ])
     refine⟨2*(s.size-(i+1))+(if (1:Nat)=1 then 1 else 0),?_,i+1,((i:Int)+1),σ,⟨_,rfl,by kernel_rfl,by kernel_rfl,by kernel_rfl,by kernel_rfl,by kernel_rfl⟩,?_,rfl,ae (⟨hD.o.inv,by omega,CQ.o,hD.o.few,fun p hp=>Nat.le_succ_of_le (hD.o.kids p hp),.inl rfl⟩)⟩
     ·simp only[if_true,reduceCtorEq,Nat.reduceEqDiff,if_false];omega
     ·omega
   ·go_wp2_with fail
    go_step3
    (try simp only[Exit.inBlock,Exit.then,eQ])
    refine⟨2*(s.size-(i))+(if (0:Nat)=1 then 1 else 0),?_,i,(i:Int),σ,⟨_,rfl,by kernel_rfl,by kernel_rfl,by kernel_rfl,by kernel_rfl,by kernel_rfl⟩,?_,rfl,ae (⟨hD.o.inv,his,hD.o.run,hD.o.few,hD.o.kids,.inr (.inl ⟨rfl,hlt⟩)⟩)⟩
    ·simp only[if_true,reduceCtorEq,Nat.reduceEqDiff,if_false];omega
    ·omega
  ·refine⟨_,rfl,?_⟩
   obtain⟨m,hm⟩:∃ m,σ.ps.length=m:=⟨_,rfl⟩
   obtain⟨dl,hdl⟩:∃ dl,σ.dn.length=dl:=⟨_,rfl⟩
   rw[hm] at ha1
   rw[hdl] at ha2 hwh
   have CQ:=ae ((Hq (op:=σ.ps.map Prod.fst) (dn:=σ.dn.map Prod.fst) hl0).symm.trans LV.o)
   rw[bM,hm] at CQ
   by_cases h0:0<m
   ·have d0:decide (0<(m:Int))=true:=by simpa using h0
    have HQ:=ae (CQ.o.symm.trans (if_pos h0))
    go_wp2_with fail
    (try simp only[Exit.inBlock,Exit.then,eQ])
    refine aJ (results_read rfl rfl rfl rfl (dR Gt.o)) rfl ?_
    exact⟨.none_ (HQ.o) rfl,dS Jr.o (aF _)⟩
   ·have d0:decide (0<(m:Int))=false:=by simpa using h0
    have CQ:=ae ((if_neg h0).symm.trans CQ.o)
    rcases Nat.eq_zero_or_pos dl with hd0|hd0
    ·have hdn:σ.dn=[]:=bF (by omega)
     have L8:decide (0<dl)=false:=decide_eq_false (by omega)
     rw[L8] at hwh
     have HQ:=ae (show R=(dW,10,(s.size:Int)) by have:=CQ.o;rw[hdn] at this;exact this.symm)
     clear L8
     go_wp2_with fail
     refine (hwh.o).mono ?_
     rintro e w' ⟨rfl,rfl⟩
     go_wp2_with fail
     (try simp only[Exit.inBlock,Exit.then,eQ])
     refine aJ (results_read rfl rfl rfl rfl (dR Gt.o)) rfl ?_
     exact⟨.none_ (HQ.o) rfl,dS Jr.o (aF _)⟩
    ·have L8:decide (0<dl)=true:=by simpa using hd0
     rw[L8] at hwh
     obtain⟨x,rest,hdn⟩:∃ x rest,σ.dn=x::rest:=by
      cases h:σ.dn with
      | nil=>rw[h] at hdl;simp at hdl;omega
      | cons x rest=>exact⟨x,rest,rfl⟩
     have HQ:=ae (show R=(x.1,0,0) by have:=CQ.o;rw[hdn] at this;exact this.symm)
     have hx0:σ.dn[0]?=some x:=by rw[hdn];rfl
     have hdk:=ae (hD.o.inv.YG x (by rw[hdn];exact bH))
     have ho:=hD.o.inv.ZX
     rw[hdl] at ho
     obtain⟨gB,cB',hv,_⟩:=ho.form hd0
     have hB:σ.B=some ⟨gB,0,none⟩:=by injection hv
     rw[hB] at ha2 ho
     obtain⟨f0,f1,f2,f3,f4⟩:=pM σ.dn 0 x hx0
     have b0:=(ho.cellAt 0 (by omega)).trans f0
     have b1:=(ho.cellAt 1 (by omega)).trans f1
     have b2:=(ho.cellAt 2 (by omega)).trans f2
     have b3:=(ho.cellAt 3 (by omega)).trans f3
     have b4:=(ho.cellAt 4 (by omega)).trans f4
     have aou:(0:Int)<(dl:Int):=by omega
     clear L8 ho hv hdn hx0 f0 f1 f2 f3 f4
     obtain⟨⟨xk,xs,xn,xl,xa⟩,xA,xc⟩:=x
     simp only[T.k,T.s,T.n,T.kids,T.at_] at b0 b1 b2 b3 b4 hdk
     obtain⟨xln,Tj⟩:∃ n,n=xl.length:=⟨_,rfl⟩
     rw[←Tj] at b3 hdk
     have DV:=ae Tj
     clear Tj
     go_wp2_with fail
     refine (hwh.o).mono ?_
     rintro e w' ⟨rfl,rfl⟩
     go_wp2_with fail
     (try simp only[Exit.inBlock,Exit.then,eQ])
     refine aJ (results_read rfl rfl rfl rfl (dR Gt.o)) rfl ?_
     refine⟨?_,dS Jr.o (aF _)⟩
     rw[HQ.o]
     refine⟨xA,xc,?_,?_,?_⟩
     ·simp only[T.k,T.s,T.n,T.kids,T.at_];rw[←DV.o];rfl
     ·simp only[T.kids];rw[←DV.o];exact hdk.o.1
     ·simp only[T.kids]
      refine ku hdk.o.2 (fun k hk=>nS (by have:=hk.1;omega)) (fun k hk=>⟨by have:=hk.1;omega,by simpa [World.setCell] using hk.2.1⟩)
  ·refine⟨_,rfl,?_⟩
   obtain⟨m,hm⟩:∃ m,σ.ps.length=m:=⟨_,rfl⟩
   have CQ:=ae ((D9 (op:=σ.ps.map Prod.fst) (dn:=σ.dn.map Prod.fst) hl0 hl1).symm.trans LV.o)
   rw[bM,hm,bM] at CQ
   have hfew:=hD.o.few
   rw[hm] at ha1 hfew
   have HM:=ae hm
   cases h12:decide (12≤(m:Int))
   ·have n12:¬12≤m:=by have:=of_decide_eq_false h12;omega
    have CQ:=ae ((if_neg n12).symm.trans CQ.o)
    cases L8:decide (0<σ.dn.length)
    ·rw[L8] at hwh
     have hdn:σ.dn=[]:=by
      have:=of_decide_eq_false L8
      exact bF (by omega)
     have CQ:=ae ((if_neg (of_decide_eq_false L8)).symm.trans CQ.o)
     have HGQ:Hid (w3.heap[w.heap.size+1]?=some (.cells #[.string s,.slice σ.A m σ.c,.slice σ.B σ.dn.length σ.cB] 102 (0,0))):=ae (by have:=Js.o;rw[hm] at this;exact this)
     have HKQ:Hid (w3.ownsRow (w.heap.size+2) 71 5 (.slice σ.A m σ.c) m (ed σ.ps)):=ae (by have:=hD.o.inv.own;rw[hm] at this;exact this)
     have VP:∀ ad:Addr,σ.A=some ad→ad.block≠w.heap.size+1:=fun ad e=>by have:=(jZ HKQ.o ⟨ad,e,rfl⟩).1;omega
     have uI:Hid (Below w3.heap.size w3 w3):=ae (aG _ _)
     have oU:Hid (∀ w':World,w'.heap[w.heap.size+1]?=w3.heap[w.heap.size+1]?→w'.cell? ⟨w.heap.size+1,1,none⟩=some (.slice σ.A m σ.c)):=ae (fun w' h1=>(aT h1).trans ha1)
     obtain⟨i0,hi,hz0,hz1,hz2⟩:=info_parts pO
     have ew:IntKind.i64.wrap (m:Int)=(m:Int):=by unfold IntKind.wrap;simp[IntKind.bits,IntKind.signed];omega
     have el:(m:Int)<(m:Int)+1:=by omega
     clear L8
     go_upto_region 19 with (fail)
     go_wp2_with fail
     refine (hwh.o).mono ?_
     rintro e w' ⟨rfl,rfl⟩
     clear hm
     go_upto_region 21 with (fail)
     refine dL.iP (fun w'=>w'.cell? ⟨w.heap.size+1,1,none⟩=some (.slice σ.A m σ.c)) [9,10,11,12,13] (by kernel_rfl) (oU.o _ rfl) (fun hHeld=>?_)
     refine dL.RH (i:=0) (C:=[0,9,10,11,12,13]) (v:=?alA) rfl (by kernel_rfl) aA (bD ⟨by rfl,?aby⟩) ‹_› ?_
     case aby=>(intro w1 hSw;(try dsimp only at hSw);go_simp;try with_reducible rfl)
     simp only[ah,ai,Act.put,au,ay,az]
     refine dL.RH (i:=1) (C:=[1,9,10,11,12,13]) (v:=?alB) rfl (by kernel_rfl) aA (bD ⟨by rfl,?abz⟩) ‹_› ?_
     case abz=>(intro w1 hSw;(try dsimp only at hSw);go_simp;try with_reducible rfl)
     simp only[ah,aj,ai,Act.put,au,ay,az]
     refine dL.RH (i:=2) (C:=[2,9,10,11,12,13]) (v:=?alC) rfl (by kernel_rfl) aA (bD ⟨by rfl,?abA⟩) ‹_› ?_
     case abA=>(intro w1 hSw;(try dsimp only at hSw);go_simp;try with_reducible rfl)
     simp only[ah,aj,ai,Act.put,au,ay,az]
     refine dL.RH (i:=3) (C:=[3,9,10,11,12,13]) (v:=?alD) rfl (by kernel_rfl) aA (bD ⟨by rfl,?abB⟩) ‹_› ?_
     case abB=>(intro w1 hSw;(try dsimp only at hSw);go_simp;try with_reducible rfl)
     simp only[ah,aj,ai,Act.put,au,ay,az]
     refine dL.RH (i:=4) (C:=[4,9,10,11,12,13]) (v:=?alE) rfl (by kernel_rfl) aA (bD ⟨by rfl,?abC⟩) ‹_› ?_
     case abC=>(intro w1 hSw;(try dsimp only at hSw);go_simp;try with_reducible rfl)
     simp only[ah,aj,ai,Act.put,au,ay,az]
     refine dL.RH (i:=5) (C:=[5,9,10,11,12,13]) (v:=?alF) rfl (by kernel_rfl) aA (bD ⟨by rfl,?abD⟩) ‹_› ?_
     case abD=>(intro w1 hSw;(try dsimp only at hSw);go_simp;try with_reducible rfl)
     simp only[ah,aj,ai,Act.put,au,ay,az]
     refine dL.RH (i:=6) (C:=[6,9,10,11,12,13]) (v:=?alG) rfl (by kernel_rfl) aA (bD ⟨by rfl,?abE⟩) ‹_› ?_
     case abE=>(intro w1 hSw;(try dsimp only at hSw);go_simp;try with_reducible rfl)
     simp only[ah,aj,ai,Act.put,au,ay,az]
     refine dL.dM (rs:=[7]) (by kernel_rfl) (by simp) ?_
     refine (dL.dJ.cons rfl (fun K hK=>?_) dL.dJ.nil)
     refine vV _ rfl rfl ?_
     refine hK.o _ _ (oU.o _ (aP _ _ _ (by simp;omega))) (fun hHeld=>?_)
     clear hK K
     simp only[ah,aj,ai,Act.put,au,ay,az,World.size_alloc,World.size_drew]
     refine dL.dM (rs:=[8]) (by kernel_rfl) (by simp) ?_
     refine (dL.dJ.cons rfl (fun K hK=>?_) dL.dJ.nil)
     refine step_append_lies _ rfl _ _ 69 rfl (w.heap.size+2) 71 i0 _ 5 64 Tryz.underlying69 hi hz0 hz1 hz2 rfl (by decide) (.slice σ.A m σ.c) m (ed σ.ps) rfl (own_below HKQ.o ((aG w3.heap.size w3).drew.trans ((aG w3.heap.size w3.drew).alloc (aF _) (.cells #[.int .i64 0,.string ⟨#[]⟩,.int .i64 0,.slice none 0 0,.int .i64 0] 71)))) ⟨w3.heap.size,0,none⟩ 1 1 [.int .i64 0,.string ⟨#[]⟩,.int .i64 0,.slice none 0 0,.int .i64 0] rfl rfl (bz (aH w3.drew (.cells #[.int .i64 0,.string ⟨#[]⟩,.int .i64 0,.slice none 0 0,.int .i64 0] 71))) ?a0 (by decide) ?a1 ?a2 ?a3 _ rfl ?_
     case a0=>(intro u hu;simp only[bZ,bI,or_false] at hu;rcases hu with rfl|rfl|rfl|rfl|rfl <;> rfl)
     case a1=>(unfold maxLen;omega)
     case a2=>omega
     case a3=>(simp;omega)
     intro g5 cap5 w5 hown5 fJ jP Au
     have hkeep:∀ b,b<w3.heap.size→(∀ ad:Addr,(σ.A:Option Addr)=some ad→ad.block≠b)→w5.heap[b]?=w3.heap[b]?:=fun b hb hA=>(fJ.block b (by simp;omega) (fun e=>EN hA e)).trans (aP w3.drew _ b hb)
     have hk1:=hkeep (w.heap.size+1) (by omega) (VP)
     have Nw:Hid (Aside (fun b=>∃ ad:Addr,(σ.A:Option Addr)=some ad∧ad.block=b) w3 w5):=ae (((Aside.of_below uI.o).drew.alloc _).grown fJ (fun b e _=>pI e))
     have sW:Hid ((∃ ad:Addr,(σ.A:Option Addr)=some ad∧ad.block=g5)∨w3.heap.size≤g5):=ae (jP.elim (fun e=>bD (pI e)) (fun e=>Or.inr (by simp at e;omega)))
     have hg5:Hid (w5.heap[w.heap.size+1]?=some (.cells #[.string s,.slice σ.A m σ.c,.slice σ.B σ.dn.length σ.cB] 102 (0,0))):=ae (hk1.trans HGQ.o)
     have hne5:g5≠(w.heap.size+1):=sW.o.elim (fun h=>h.elim fun ad e2=>by have:=VP ad e2.1;omega) (fun h=>by omega)
     have jq:=ae hown5
     have hq:=Dj (n:=m) (qs:=σ.ps) HKQ.o
     have hzc:∀ i,i<5→(ed σ.ps++[.int .i64 0,.string ⟨#[]⟩,.int .i64 0,.slice none 0 0,.int .i64 0])[m*5+i]?=([.int .i64 0,.string ⟨#[]⟩,.int .i64 0,.slice none 0 0,.int .i64 0]:List Value)[i]?:=fun i hi=>by rw[bK (by rw[jg,hq];omega),jg,hq,show m*5+i-m*5=i by omega]
     have hrc:w5.cell? ⟨w.heap.size+1,1,none⟩=some (.slice σ.A m σ.c):=by simp[World.cell?,hg5.o]
     have hrf:w5.frozen? ⟨w.heap.size+1,1,none⟩=false:=by simp[World.frozen?,hg5.o]
     have d0:=(hown5.cellAt (m*5) (by omega)).trans (hzc 0 (by decide))
     have r0:=hown5.frozenAt (m*5)
     have d1:=(hown5.cellAt (m*5+1) (by omega)).trans (hzc 1 (by decide))
     have r1:=hown5.frozenAt (m*5+1)
     have d2:=(hown5.cellAt (m*5+2) (by omega)).trans (hzc 2 (by decide))
     have r2:=hown5.frozenAt (m*5+2)
     have d3:=(hown5.cellAt (m*5+3) (by omega)).trans (hzc 3 (by decide))
     have r3:=hown5.frozenAt (m*5+3)
     have d4:=(hown5.cellAt (m*5+4) (by omega)).trans (hzc 4 (by decide))
     have r4:=hown5.frozenAt (m*5+4)
     simp only[List.getElem?_cons_zero,List.getElem?_cons_succ] at d0 d1 d2 d3 d4
     have Yx:(w5.setCell ⟨w.heap.size+1,1,none⟩ (.slice (some ⟨g5,0,none⟩) (m+1) cap5)).cell? ⟨g5,m*5,none⟩=_:=(aT (aI w5 ⟨w.heap.size+1,1,none⟩ (.slice (some ⟨g5,0,none⟩) (m+1) cap5) g5 hne5)).trans d0
     have Yy:(w5.setCell ⟨w.heap.size+1,1,none⟩ (.slice (some ⟨g5,0,none⟩) (m+1) cap5)).frozen? ⟨g5,m*5,none⟩=false:=(World.frozen?_of_block (aI w5 ⟨w.heap.size+1,1,none⟩ (.slice (some ⟨g5,0,none⟩) (m+1) cap5) g5 hne5)).trans r0
     have dd1:(w5.setCell ⟨w.heap.size+1,1,none⟩ (.slice (some ⟨g5,0,none⟩) (m+1) cap5)).cell? ⟨g5,m*5+1,none⟩=_:=(aT (aI w5 ⟨w.heap.size+1,1,none⟩ (.slice (some ⟨g5,0,none⟩) (m+1) cap5) g5 hne5)).trans d1
     have Yz:(w5.setCell ⟨w.heap.size+1,1,none⟩ (.slice (some ⟨g5,0,none⟩) (m+1) cap5)).frozen? ⟨g5,m*5+1,none⟩=false:=(World.frozen?_of_block (aI w5 ⟨w.heap.size+1,1,none⟩ (.slice (some ⟨g5,0,none⟩) (m+1) cap5) g5 hne5)).trans r1
     have YA:(w5.setCell ⟨w.heap.size+1,1,none⟩ (.slice (some ⟨g5,0,none⟩) (m+1) cap5)).cell? ⟨g5,m*5+2,none⟩=_:=(aT (aI w5 ⟨w.heap.size+1,1,none⟩ (.slice (some ⟨g5,0,none⟩) (m+1) cap5) g5 hne5)).trans d2
     have YB:(w5.setCell ⟨w.heap.size+1,1,none⟩ (.slice (some ⟨g5,0,none⟩) (m+1) cap5)).frozen? ⟨g5,m*5+2,none⟩=false:=(World.frozen?_of_block (aI w5 ⟨w.heap.size+1,1,none⟩ (.slice (some ⟨g5,0,none⟩) (m+1) cap5) g5 hne5)).trans r2
     have YC:(w5.setCell ⟨w.heap.size+1,1,none⟩ (.slice (some ⟨g5,0,none⟩) (m+1) cap5)).cell? ⟨g5,m*5+3,none⟩=_:=(aT (aI w5 ⟨w.heap.size+1,1,none⟩ (.slice (some ⟨g5,0,none⟩) (m+1) cap5) g5 hne5)).trans d3
     have YD:(w5.setCell ⟨w.heap.size+1,1,none⟩ (.slice (some ⟨g5,0,none⟩) (m+1) cap5)).frozen? ⟨g5,m*5+3,none⟩=false:=(World.frozen?_of_block (aI w5 ⟨w.heap.size+1,1,none⟩ (.slice (some ⟨g5,0,none⟩) (m+1) cap5) g5 hne5)).trans r3
     have YE:(w5.setCell ⟨w.heap.size+1,1,none⟩ (.slice (some ⟨g5,0,none⟩) (m+1) cap5)).cell? ⟨g5,m*5+4,none⟩=_:=(aT (aI w5 ⟨w.heap.size+1,1,none⟩ (.slice (some ⟨g5,0,none⟩) (m+1) cap5) g5 hne5)).trans d4
     have YF:(w5.setCell ⟨w.heap.size+1,1,none⟩ (.slice (some ⟨g5,0,none⟩) (m+1) cap5)).frozen? ⟨g5,m*5+4,none⟩=false:=(World.frozen?_of_block (aI w5 ⟨w.heap.size+1,1,none⟩ (.slice (some ⟨g5,0,none⟩) (m+1) cap5) g5 hne5)).trans r4
     have hpg:(((((w5.setCell ⟨g5,m*5,none⟩ (.int .i64 1)).setCell ⟨g5,m*5+1,none⟩ (.string ⟨#[]⟩)).setCell ⟨g5,m*5+2,none⟩ (.int .i64 0)).setCell ⟨g5,m*5+3,none⟩ (.slice none 0 0)).setCell ⟨g5,m*5+4,none⟩ (.int .i64 (i:Int))).heap[w.heap.size+1]?=w5.heap[w.heap.size+1]?:=(aI _ ⟨g5,m*5+4,none⟩ _ (w.heap.size+1) (Ne.symm hne5)).trans ((aI _ ⟨g5,m*5+3,none⟩ _ (w.heap.size+1) (Ne.symm hne5)).trans ((aI _ ⟨g5,m*5+2,none⟩ _ (w.heap.size+1) (Ne.symm hne5)).trans ((aI _ ⟨g5,m*5+1,none⟩ _ (w.heap.size+1) (Ne.symm hne5)).trans (aI _ ⟨g5,m*5,none⟩ _ (w.heap.size+1) (Ne.symm hne5)))))
     have hpc:(((((w5.setCell ⟨g5,m*5,none⟩ (.int .i64 1)).setCell ⟨g5,m*5+1,none⟩ (.string ⟨#[]⟩)).setCell ⟨g5,m*5+2,none⟩ (.int .i64 0)).setCell ⟨g5,m*5+3,none⟩ (.slice none 0 0)).setCell ⟨g5,m*5+4,none⟩ (.int .i64 (i:Int))).cell? ⟨w.heap.size+1,1,none⟩=w5.cell? ⟨w.heap.size+1,1,none⟩:=aT hpg
     rw[hrc] at hpc
     have VS:(((((w5.setCell ⟨g5,m*5,none⟩ (.int .i64 1)).setCell ⟨g5,m*5+1,none⟩ (.string ⟨#[]⟩)).setCell ⟨g5,m*5+2,none⟩ (.int .i64 0)).setCell ⟨g5,m*5+3,none⟩ (.slice none 0 0)).setCell ⟨g5,m*5+4,none⟩ (.int .i64 (i:Int))).frozen? ⟨w.heap.size+1,1,none⟩=w5.frozen? ⟨w.heap.size+1,1,none⟩:=World.frozen?_of_block hpg
     rw[hrf] at VS
     have HD:=ae (bU d0 (bU d1 (bU d2 (bU d3 (bU d4 (bU r0 (bU r1 (bU r2 (bU r3 (bU r4 (bU hpc VS)))))))))))
     have rq:=ae (bU Yx (bU dd1 (bU YA (bU YC (bU YE (bU Yy (bU Yz (bU YB (bU YD (bU YF (bU hrc hrf)))))))))))
     have hF1:=ae (BR (x:=((.mk 1 ⟨#[]⟩ 0 [] (i:Int):T),none,0)) (o:=1) Nw.o sW.o jq.o hg5.o hne5 hq)
     have hF2:=ae (vU (x:=((.mk 1 ⟨#[]⟩ 0 [] (i:Int):T),none,0)) (o:=1) Nw.o sW.o jq.o hg5.o hne5 hq)
     simp only[T.k,T.s,T.n,T.kids,T.at_] at hF1 hF2
     simp only[List.length_nil] at hF1 hF2
     clear hown5 fJ jP hkeep hzc hpg Nw sW jq d0 d1 d2 d3 d4 r0 r1 r2 r3 r4 Yx dd1 YA YC YE Yy Yz YB YD YF hpc VS hrc hrf
     refine hK.o _ _ (oU.o _ hk1) (fun hHeld=>?_)
     clear hK K hk1
     simp only[ah,aj,ai,Act.put,au,ay,az]
     refine dL.lJ (i:=9) (v:=?alH) (by decide) rfl (by kernel_rfl) (by kernel_rfl) (by kernel_rfl) (fun _ _ _ h=>h) (bD ⟨by rfl,?abG⟩) ?_
     case abG=>(intro w1 hSw;go_simp;try with_reducible rfl)
     simp only[ah,aj,ai,Act.put,au,ay,az]
     refine dL.lJ (i:=11) (v:=?alI) (by decide) rfl (by kernel_rfl) (by kernel_rfl) (by kernel_rfl) (fun _ _ _ h=>h) (bD ⟨by rfl,?abH⟩) ?_
     case abH=>(intro w1 hSw;go_simp;try with_reducible rfl)
     simp only[ah,aj,ai,Act.put,au,ay,az]
     refine dL.lJ (i:=12) (v:=?aij) (by decide) rfl (by kernel_rfl) (by kernel_rfl) (by kernel_rfl) (fun _ _ _ h=>h) (bD ⟨by rfl,?YH⟩) ?_
     case YH=>(intro w1 hSw;go_simp;try with_reducible rfl)
     simp only[ah,aj,ai,Act.put,au,ay,az]
     refine dL.dM (rs:=[10,13]) (by kernel_rfl) (by simp) ?_
     refine dL.dJ.late (by decide) rfl (fun K hK=>?_) (dL.dJ.late (by decide) rfl (fun K hK=>?_) dL.dJ.nil)
     ·
      have hm:=HM.o
      obtain⟨d0,d1,d2,d3,d4,r0,r1,r2,r3,r4,hpc,VS⟩:=HD.o
      clear rq hF2 hHeld oU
      simp only[ah,aj,ai]
      go_simp
      refine hK.o _ _ ?_
      clear hK K
      refine dL.dM (rs:=[13]) (by kernel_rfl) (by simp) ?_
      refine dL.dJ.late (by decide) rfl (fun K hK=>?_) dL.dJ.nil
      simp only[ah,aj,ai]
      go_simp
      refine hK.o _ _ ?_
      clear hK K
      refine dL.gW (by kernel_rfl) ?_ _
      have xe:=hF1
      clear d0 d1 d2 d3 d4 r0 r1 r2 r3 r4 hpc VS
      obtain⟨g',cap',hr⟩:=hD.o.inv.push hdn (t:=(.mk 1 ⟨#[]⟩ 0 [] (i:Int):T)) rfl (by rw[hm];exact xe.o)
      obtain⟨σ2,HR2⟩:∃ σ2:St,Hid (RInv s w σ2 _∧σ2.ps=σ.ps++[((.mk 1 ⟨#[]⟩ 0 [] (i:Int):T),none,0)]∧σ2.dn=σ.dn):=⟨_,ae ⟨hr,rfl,rfl⟩⟩
      clear hr xe
      go_wp2_with fail
      go_step3
      (try simp only[Exit.inBlock,Exit.then,eQ])
      refine⟨2*(s.size-(i+1))+(if (1:Nat)=1 then 1 else 0),?_,i+1,((i:Int)+1),σ2,⟨_,rfl,by kernel_rfl,by kernel_rfl,by kernel_rfl,by kernel_rfl,by kernel_rfl⟩,?_,rfl,ae (⟨HR2.o.1,by omega,by rw[HR2.o.2.1,HR2.o.2.2,List.map_append];exact CQ.o,by rw[HR2.o.2.1,aZ,hm];simp only[cZ];omega,fun p hp=>(cu.1 (HR2.o.2.1 ▸ hp)).elim (fun hp=>Nat.le_succ_of_le (hD.o.kids p hp)) (fun hp=>by rw[df.1 hp];exact aX _),.inl rfl⟩)⟩
      ·simp only[if_true,reduceCtorEq,Nat.reduceEqDiff,if_false];omega
      ·omega
     ·
      have hm:=HM.o
      obtain⟨Yx,dd1,YA,YC,YE,Yy,Yz,YB,YD,YF,hrc,hrf⟩:=rq.o
      clear HD hF1 hHeld oU
      simp only[ah,aj,ai]
      go_simp
      refine hK.o _ _ ?_
      clear hK K
      refine dL.dM (rs:=[10]) (by kernel_rfl) (by simp) ?_
      refine dL.dJ.late (by decide) rfl (fun K hK=>?_) dL.dJ.nil
      simp only[ah,aj,ai]
      go_simp
      refine hK.o _ _ ?_
      clear hK K
      refine dL.gW (by kernel_rfl) ?_ _
      have xe:=hF2
      clear Yx dd1 YA YC YE Yy Yz YB YD YF hrc hrf
      obtain⟨g',cap',hr⟩:=hD.o.inv.push hdn (t:=(.mk 1 ⟨#[]⟩ 0 [] (i:Int):T)) rfl (by rw[hm];exact xe.o)
      obtain⟨σ2,HR2⟩:∃ σ2:St,Hid (RInv s w σ2 _∧σ2.ps=σ.ps++[((.mk 1 ⟨#[]⟩ 0 [] (i:Int):T),none,0)]∧σ2.dn=σ.dn):=⟨_,ae ⟨hr,rfl,rfl⟩⟩
      clear hr xe
      go_wp2_with fail
      go_step3
      (try simp only[Exit.inBlock,Exit.then,eQ])
      refine⟨2*(s.size-(i+1))+(if (1:Nat)=1 then 1 else 0),?_,i+1,((i:Int)+1),σ2,⟨_,rfl,by kernel_rfl,by kernel_rfl,by kernel_rfl,by kernel_rfl,by kernel_rfl⟩,?_,rfl,ae (⟨HR2.o.1,by omega,by rw[HR2.o.2.1,HR2.o.2.2,List.map_append];exact CQ.o,by rw[HR2.o.2.1,aZ,hm];simp only[cZ];omega,fun p hp=>(cu.1 (HR2.o.2.1 ▸ hp)).elim (fun hp=>Nat.le_succ_of_le (hD.o.kids p hp)) (fun hp=>by rw[df.1 hp];exact aX _),.inl rfl⟩)⟩
      ·simp only[if_true,reduceCtorEq,Nat.reduceEqDiff,if_false];omega
      ·omega
    ·rw[L8] at hwh
     have HQ:=ae (CQ.o.symm.trans (if_pos (of_decide_eq_true L8)))
     clear L8 hm
     go_wp2_with fail
     refine (hwh.o).mono ?_
     rintro e w' ⟨rfl,rfl⟩
     go_wp2_with fail
     (try simp only[Exit.inBlock,Exit.then,eQ])
     refine aJ (results_read rfl rfl rfl rfl (dR Gt.o)) rfl ?_
     exact⟨.none_ (HQ.o) rfl,dS Jr.o (aF _)⟩
   ·have y12:12≤m:=by have:=of_decide_eq_true h12;omega
    have HQ:=ae (CQ.o.symm.trans (if_pos y12))
    clear hm
    go_wp2_with fail
    (try simp only[Exit.inBlock,Exit.then,eQ])
    refine aJ (results_read rfl rfl rfl rfl (dR Gt.o)) rfl ?_
    exact⟨.none_ (HQ.o) rfl,dS Jr.o (aF _)⟩
  ·refine⟨_,rfl,?_⟩
   rcases Nat.eq_zero_or_pos σ.ps.length with h0|h0
   ·have HQ:=ae (show R=(dW,12,(i:Int)) by exact (LV.o.symm.trans (zi hl0 hl1 (by rw[bM];exact h0))))
    rw[h0] at ha1
    go_wp2_with fail
    (try simp only[Exit.inBlock,Exit.then,eQ])
    refine aJ (results_read rfl rfl rfl rfl (dR Gt.o)) rfl ?_
    exact⟨.none_ (HQ.o) rfl,dS Jr.o (aF _)⟩
   ·obtain⟨m,hm⟩:∃ m,σ.ps.length=m+1:=⟨σ.ps.length-1,by omega⟩
    obtain⟨x,hx⟩:∃ x,σ.ps[m]?=some x:=⟨_,aO (by omega)⟩
    have hfew:=hD.o.few
    have CQ:=ae ((BM (op:=σ.ps.map Prod.fst) (dn:=σ.dn.map Prod.fst) hl0 hl1 (m:=m) (t:=x.1) (by rw[bM];exact hm) (by rw[bP,hx];rfl)).symm.trans LV.o)
    have hkx:=hD.o.kids x (aN hx)
    have ho:=hD.o.inv.own
    rw[hm] at ho ha1 hfew
    obtain⟨gO,cO,hv,_⟩:=ho.form (by omega)
    have hA:σ.A=some ⟨gO,0,none⟩:=by injection hv
    rw[hA] at ha1 ho
    obtain⟨f0,f1,f2,f3,f4⟩:=pM σ.ps m x hx
    have b0:=(ho.cellAt (m*5) (by omega)).trans f0
    have b1:=(ho.cellAt (m*5+1) (by omega)).trans f1
    have b2:=(ho.cellAt (m*5+2) (by omega)).trans f2
    have b3:=(ho.cellAt (m*5+3) (by omega)).trans f3
    have b4:=(ho.cellAt (m*5+4) (by omega)).trans f4
    obtain⟨_,_⟩:=ho.form (show 0<m+1 by omega)
    have hcm:m+1≤σ.c:=by
     rcases ho.2 with⟨h,_⟩|⟨_,cap,_,h,_,_,h2,_⟩
     ·simp at h
     ·injection h with _ _ h;omega
    obtain⟨w4,yw⟩:∃ w4,w4=w3.alloc (.cells #[.int .i64 x.1.k,.string x.1.s,.int .i64 x.1.n,.slice x.2.1 x.1.kids.length x.2.2,.int .i64 x.1.at_] 71):=⟨_,rfl⟩
    have hb4:Below w3.heap.size w3 w4:=by rw[yw];exact (aG _ _).alloc (aF _) _
    have hn4:w4.heap[w3.heap.size]?=some (.cells #[.int .i64 x.1.k,.string x.1.s,.int .i64 x.1.n,.slice x.2.1 x.1.kids.length x.2.2,.int .i64 x.1.at_] 71 (0,0)):=by rw[yw];exact aH w3 _
    obtain⟨oI,hx5⟩:=(hD.o.inv.below hb4).pop hm hx (by omega)
    have hc4:w4.cell? ⟨w.heap.size+1,1,none⟩=some (.slice (some ⟨gO,0,none⟩) (m+1) σ.c):=(aT (hb4.block (w.heap.size+1) (by omega))).trans ha1
    have hf4:w4.frozen? ⟨w.heap.size+1,1,none⟩=false:=by
     have:=(hb4.block (w.heap.size+1) (by omega)).trans Js.o
     simp[World.frozen?,this]
    have hdn:σ.dn=[]:=by
     rcases hD.o.inv.od with h|h
     ·rw[h] at hm;cases hm
     ·exact h
    have hadd:=add_any oI x hx5 (by simp only[List.length_take];omega) (fun p hp=>by have:=hD.o.kids p (List.mem_of_mem_take hp);omega) (fun _=>hdn)
    obtain⟨w5,yx⟩:∃ w5,w5=w4.setCell ⟨w.heap.size+1,1,none⟩ (.slice σ.A m σ.c):=⟨_,rfl⟩
    have Yn:w5.heap[w3.heap.size]?=some (.cells #[.int .i64 x.1.k,.string x.1.s,.int .i64 x.1.n,.slice x.2.1 x.1.kids.length x.2.2,.int .i64 x.1.at_] 71 (0,0)):=by rw[yx];exact (aI w4 ⟨w.heap.size+1,1,none⟩ _ w3.heap.size (by simp;omega)).trans hn4
    rw[←yx] at hadd
    rw[hA] at yx
    have LY:=ae hadd
    have HW4:=ae yw
    have Ue:=ae yx
    have Qh:=ae Yn
    have HMX:=ae (bU hm (bU hx (bU hkx hdn)))
    have em:((m:Int)+1-1)=(m:Int):=by omega
    have ew:IntKind.i64.wrap (m:Int)=(m:Int):=by unfold IntKind.wrap;simp[IntKind.bits,IntKind.signed];omega
    have el:(m:Int)<(m:Int)+1:=by omega
    have aox:decide (0<(m:Int)+1)=true:=decide_eq_true (by omega)
    have ele:(m:Int)≤(m:Int)+1:=by omega
    clear oI hx5 hadd yw yx hb4 hn4 Yn ho hv f0 f1 f2 f3 f4 hx hkx hdn
    obtain⟨⟨xk,xs,xn,xl,xa⟩,xA,xc⟩:=x
    simp only[T.k,T.s,T.n,T.kids,T.at_] at b0 b1 b2 b3 b4 LY HW4 Qh HMX CQ
    obtain⟨xln,Tj⟩:∃ n,n=xl.length:=⟨_,rfl⟩
    rw[←Tj] at b3 LY HW4 Qh
    clear Tj hm
    go_upto_region 26 with (fail)
    rw[←HW4.o]
    go_upto_region 27 with (fail)
    rw[←Ue.o]
    obtain⟨⟨k0,k1,k2,k3,k4⟩,_,_,_,_,_⟩:=dN Qh.o
    go_wp2_with fail
    refine (LY.o).mono ?_
    rintro e w6 ⟨rfl,σ2,qK,EO,hlen2,_,L6⟩
    obtain⟨hm,hx,hkx,hdn⟩:=HMX.o
    have hlen3:σ2.ps.length=m:=by rw[hlen2];simp only[List.length_take];omega
    have yO:=ae qK
    have HRU:Hid (fZ s (σ2.ps.map Prod.fst) (σ2.dn.map Prod.fst) (i+1)=R):=ae (by
     have h1:=congrArg Prod.fst EO
     have h2:=congrArg Prod.snd EO
     simp only at h1 h2
     rw[h1,h2]
     simp only[List.map_take]
     exact CQ.o)
    have Nu:Hid (∀ p∈σ2.ps,p.1.kids.length≤i+1):=ae (fun p hp=>by
     obtain⟨p0,hp0,h⟩:=L6 p hp
     have:=hD.o.kids p0 (List.mem_of_mem_take hp0)
     omega)
    clear qK EO hlen2 L6 hm hx hkx hdn
    go_wp2_with fail
    go_step3
    (try simp only[Exit.inBlock,Exit.then,eQ])
    refine⟨2*(s.size-(i+1))+(if (1:Nat)=1 then 1 else 0),?_,i+1,((i:Int)+1),σ2,⟨_,rfl,by kernel_rfl,by kernel_rfl,by kernel_rfl,by kernel_rfl,by kernel_rfl⟩,?_,rfl,ae (⟨yO.o,by omega,HRU.o,by omega,Nu.o,.inl rfl⟩)⟩
    ·simp only[if_true,reduceCtorEq,Nat.reduceEqDiff,if_false];omega
    ·omega
theorem kY.low {w w':World} {p:P} {a:PA} (h:kY w (LT w) p a)(hb:Below w.heap.size w w'):kY w' (LT w') p a:=(h.kept fun k hk=>hb.block k hk).mono fun k hk=>aK hk hb.size
def Jl (p:P):Prop:=∀ (a b:PA)(w:World),kY w (LT w) p a→kY w (LT w) p b→Calls Tryz.prog 35 #[p.val a,p.val b] w fun r w'=>r=.returned (.bool true)∧Below w.heap.size w w'
theorem CE.gy {w wr:World} {A:Option Addr} {l:List P} (h:CE w (LT w) A l)(hb:Below w.heap.size w wr) {j:Nat} {x:P} (hx:l[j]?=some x) :
 ∃ b o a,A=some ⟨b,o,none⟩∧b<w.heap.size∧(∀ i u,(x.cs a)[i]?=some u→wr.cell? ⟨b,o+j*8+i,none⟩=some u)∧kY wr (LT wr) x a:=by
 obtain⟨b,o,a,e,hlt,hc,hp⟩:=h.at hx
 exact⟨b,o,a,e,hlt,fun i u hu=>(hb.cell (p:=⟨b,o+j*8+i,none⟩) hlt).trans (hc i u hu),hp.low hb⟩
def P.bx (p:P)(a:PA):Array Value:=#[.int .i64 p.k,.string p.nm,.slice a.ea p.ex.length a.ec,.slice a.ca p.cols.length a.cc,.slice a.la p.left.length a.lc,.slice a.ra p.right.length a.rc,.slice a.ga p.ag.length a.gc,.slice a.ka p.kids.length a.kc]
theorem SQ (l:List P)(hM:∀ e∈l,Jl e)(A B:Option Addr)(c d:Nat)(w:World)(hn:l.length≤9223372036854775807)(hA:CE w (LT w) A l)(hB:CE w (LT w) B l) :
 Calls Tryz.prog 75 #[.slice A l.length c,.slice B l.length d,.func (.func 35) #[] #[]] w fun e w'=>e=.returned (.bool true)∧Below w.heap.size w w':=by
 have HA:=ae hA
 have HB:=ae hB
 have HM:=ae hM
 obtain⟨m,em⟩:∃ m,m=l.length:=⟨_,rfl⟩
 have yt:=ae em
 rw[←em] at hn ⊢
 clear hA hB em hM
 go_enter Tryz.func75,Tryz.ntmps75
 go_wp2_with fail
 go_loopw [17] (fun i wr=>∃ j:Nat,j≤m∧i=.int .i64 j∧Below w.heap.size w wr) (fun i _=>m-(intOf i).toNat)
 case atStart=>exact⟨0,aX _,rfl,aG _ _⟩
 case round =>
  obtain⟨j,hj,rfl,hb⟩:=hrel
  by_cases hlt:j<m
  ·obtain⟨x,hx⟩:=jF yt.o hlt
   obtain⟨b,o,a1,rfl,hb1,hc1,hp1⟩:=HA.o.gy hb hx
   have m0:=hc1 0 _ rfl
   have m1:=hc1 1 _ rfl
   have m2:=hc1 2 _ rfl
   have m3:=hc1 3 _ rfl
   have m4:=hc1 4 _ rfl
   have m5:=hc1 5 _ rfl
   have m6:=hc1 6 _ rfl
   have m7:=hc1 7 _ rfl
   rw[Nat.add_zero] at m0
   obtain⟨wx,iK⟩:∃ wx,wx=wr.alloc (.cells #[.int .i64 x.k,.string x.nm,.slice a1.ea x.ex.length a1.ec,.slice a1.ca x.cols.length a1.cc,.slice a1.la x.left.length a1.lc,.slice a1.ra x.right.length a1.rc,.slice a1.ga x.ag.length a1.gc,.slice a1.ka x.kids.length a1.kc] 27):=⟨_,rfl⟩
   have hbx:Below wr.heap.size wr wx:=by rw[iK];exact (aG _ _).alloc (aF _) _
   have hnx:wx.heap[wr.heap.size]?=some (.cells #[.int .i64 x.k,.string x.nm,.slice a1.ea x.ex.length a1.ec,.slice a1.ca x.cols.length a1.cc,.slice a1.la x.left.length a1.lc,.slice a1.ra x.right.length a1.rc,.slice a1.ga x.ag.length a1.gc,.slice a1.ka x.kids.length a1.kc] 27 (0,0)):=by rw[iK];exact aH wr _
   have hbw:Below w.heap.size w wx:=hb.trans (hbx.mono hb.size)
   obtain⟨b2,o2,a2,rfl,hb2,hc2,hp2⟩:=HB.o.gy hbw hx
   have k0:=hc2 0 _ rfl
   have k1:=hc2 1 _ rfl
   have k2:=hc2 2 _ rfl
   have k3:=hc2 3 _ rfl
   have k4:=hc2 4 _ rfl
   have k5:=hc2 5 _ rfl
   have k6:=hc2 6 _ rfl
   have k7:=hc2 7 _ rfl
   rw[Nat.add_zero] at k0
   obtain⟨wy,zY⟩:∃ wy,wy=wx.alloc (.cells #[.int .i64 x.k,.string x.nm,.slice a2.ea x.ex.length a2.ec,.slice a2.ca x.cols.length a2.cc,.slice a2.la x.left.length a2.lc,.slice a2.ra x.right.length a2.rc,.slice a2.ga x.ag.length a2.gc,.slice a2.ka x.kids.length a2.kc] 27):=⟨_,rfl⟩
   have hby:Below wx.heap.size wx wy:=by rw[zY];exact (aG _ _).alloc (aF _) _
   have hny:wy.heap[wx.heap.size]?=some (.cells #[.int .i64 x.k,.string x.nm,.slice a2.ea x.ex.length a2.ec,.slice a2.ca x.cols.length a2.cc,.slice a2.la x.left.length a2.lc,.slice a2.ra x.right.length a2.rc,.slice a2.ga x.ag.length a2.gc,.slice a2.ka x.kids.length a2.kc] 27 (0,0)):=by rw[zY];exact aH wx _
   have hnx2:=(hby.block _ (aU.1 hnx).1).trans hnx
   have D5:=ae (hbw.trans (hby.mono hbw.size))
   have hcl:=HM.o x (aN hx) a1 a2 wy (hp1.low (hbx.trans (hby.mono hbx.size))) (hp2.low hby)
   simp only[P.val] at hcl
   have lG:=ae hcl
   have ni:=ae iK
   have RS:=ae zY
   clear iK zY hbx hby hbw hnx hx hc1 hc2 hp1 hp2 hcl
   generalize x.k=xk at *
   generalize x.nm=JH at *
   generalize x.ex.length=x1 at *
   generalize x.cols.length=x2 at *
   generalize x.left.length=x3 at *
   generalize x.right.length=x4 at *
   generalize x.ag.length=x5 at *
   generalize x.kids.length=x6 at *
   obtain⟨qa,qb,qc,qd,qe,qf,qg,qh,qi,qj,qk,ql⟩:=a1
   obtain⟨ra,rb,rc,rd,re,rf,rg,rh,ri,rj,rk,rl⟩:=a2
   simp only at m0 m1 m2 m3 m4 m5 m6 m7 k0 k1 k2 k3 k4 k5 k6 k7 lG ni RS hnx2 hny
   obtain⟨z0,z1,z2,z3,z4,z5,z6,z7,_,_,_,_,_,_,_,_⟩:=dO hnx2
   obtain⟨y0,y1,y2,y3,y4,y5,y6,y7,_,_,_,_,_,_,_,_⟩:=dO hny
   go_upto_region 6 with (fail)
   rw[←ni.o]
   go_upto_region 7 with (fail)
   rw[←RS.o]
   go_wp2_with fail
   refine (lG.o).mono ?_
   rintro e w3 ⟨rfl,hb3⟩
   have HB3:=ae (D5.o.trans (hb3.mono D5.o.size))
   clear hb3
   go_wp2_with fail
   go_roundw
   case measure=>exact pG hlt
   case rel=>exact⟨j+1,hlt,by simp,HB3.o⟩
  ·have oL:=ae hb
   go_wp2_with fail
   go_ret
   exact⟨rfl,oL.o⟩
theorem LD (k:Int)(nm:ByteArray)(ex:List E)(cols left right:List ByteArray)(ag:List Ag)(kids:List P)(hM:∀ p∈kids,Jl p):Jl (.mk k nm ex cols left right ag kids):=by
 intro a b w hA hB
 obtain⟨⟨hE,hC,U2,hR,hG,q1,q2,⟨q3,-⟩,⟨q4,-⟩,q5⟩,JK⟩:=hA
 obtain⟨⟨gE,gC,gLf,gR,gG,_,_,_,_,_⟩,ZT⟩:=hB
 obtain⟨ea,ec,ca,cc,la,lc,ra,rc,ga,gc,ka,kc⟩:=a
 obtain⟨OQ,OT,ca',cc',la',OU,OV,rc',ga',gc',OW,OX⟩:=b
 simp only[P.val,P.k,P.nm,P.ex,P.cols,P.left,P.right,P.ag,P.kids] at hE hC U2 hR hG JK gE gC gLf gR gG ZT q1 q2 q3 q4 q5 ⊢
 have q6:=JK.len
 obtain⟨w1,dZ⟩:∃ w1,w1=(w.alloc (.cells #[.int .i64 k,.string nm,.slice ea ex.length ec,.slice ca cols.length cc,.slice la left.length lc,.slice ra right.length rc,.slice ga ag.length gc,.slice ka kids.length kc] 27)).alloc (.cells #[.int .i64 k,.string nm,.slice OQ ex.length OT,.slice ca' cols.length cc',.slice la' left.length OU,.slice OV right.length rc',.slice ga' ag.length gc',.slice OW kids.length OX] 27):=⟨_,rfl⟩
 have hb1:Below w.heap.size w w1:=by rw[dZ];exact ((aG _ _).alloc (aF _) _).alloc (by simp) _
 have hs1:w1.heap.size=w.heap.size+2:=by rw[dZ];simp
 have jJ:Hid (w1.heap[w.heap.size]?=some (.cells #[.int .i64 k,.string nm,.slice ea ex.length ec,.slice ca cols.length cc,.slice la left.length lc,.slice ra right.length rc,.slice ga ag.length gc,.slice ka kids.length kc] 27 (0,0))):=ae (by
  rw[dZ]
  exact (aP _ _ _ (by simp)).trans (aH w _))
 have iI:Hid (w1.heap[w.heap.size+1]?=some (.cells #[.int .i64 k,.string nm,.slice OQ ex.length OT,.slice ca' cols.length cc',.slice la' left.length OU,.slice OV right.length rc',.slice ga' ag.length gc',.slice OW kids.length OX] 27 (0,0))):=ae (by
  rw[dZ]
  have:=aH (w.alloc (.cells #[.int .i64 k,.string nm,.slice ea ex.length ec,.slice ca cols.length cc,.slice la left.length lc,.slice ra right.length rc,.slice ga ag.length gc,.slice ka kids.length kc] 27)) (.cells #[.int .i64 k,.string nm,.slice OQ ex.length OT,.slice ca' cols.length cc',.slice la' left.length OU,.slice OV right.length rc',.slice ga' ag.length gc',.slice OW kids.length OX] 27)
  simpa using this)
 have hw:∀ w',Below w1.heap.size w1 w'→Below w.heap.size w w':=fun w' h=>hb1.trans (h.mono hb1.size)
 have hlo:∀ w',Below w1.heap.size w1 w'→∀ A vs,Lies w (LT w) A vs→Lies w' (LT w') A vs:=fun w' h A vs hl=>(hl.kept fun k hk=>(hw w' h).block k hk).mono fun k hk=>aK hk (hw w' h).size
 have H2:=ae (fun w' (h:Below w1.heap.size w1 w')=>Iq ex (fun e _=>SN e) ea OQ ec OT w' (((hE.to fun k h=>h).low (hw w' h)).more (hw w' h).size) (((gE.to fun k h=>h).low (hw w' h)).more (hw w' h).size))
 have H3:=ae (fun w' (h:Below w1.heap.size w1 w')=>xZ cols q2 ca ca' cc cc' w' (hlo w' h _ _ hC) (hlo w' h _ _ gC))
 have H4:=ae (fun w' (h:Below w1.heap.size w1 w')=>xZ left q3 la la' lc OU w' (hlo w' h _ _ U2) (hlo w' h _ _ gLf))
 have H5:=ae (fun w' (h:Below w1.heap.size w1 w')=>xZ right q4 ra OV rc rc' w' (hlo w' h _ _ hR) (hlo w' h _ _ gR))
 have H6:=ae (fun w' (h:Below w1.heap.size w1 w')=>Yr ag q5 ga ga' gc gc' w' (hlo w' h _ _ hG) (hlo w' h _ _ gG))
 have H7:=ae (fun w' (h:Below w1.heap.size w1 w')=>SQ kids hM ka OW kc OX w' q6 ((JK.kept fun k hk=>(hw w' h).block k hk).mono fun k hk=>aK hk (hw w' h).size) ((ZT.kept fun k hk=>(hw w' h).block k hk).mono fun k hk=>aK hk (hw w' h).size))
 have HB1:=ae hb1
 have HW1:=ae dZ
 have hz1:w.heap.size<w1.heap.size:=by omega
 have hz2:w.heap.size+1<w1.heap.size:=by omega
 generalize ex.length=n1 at *
 generalize cols.length=n2 at *
 generalize left.length=n3 at *
 generalize right.length=n4 at *
 generalize ag.length=n5 at *
 generalize kids.length=n6 at *
 clear hE hC U2 hR hG JK gE gC gLf gR gG ZT q1 q2 q3 q4 q5 q6 dZ hb1 hs1 hw hlo hM
 obtain⟨z0,z1,z2,z3,z4,z5,z6,z7,_,_,_,_,_,_,_,_⟩:=dO jJ.o
 obtain⟨y0,y1,y2,y3,y4,y5,y6,y7,_,_,_,_,_,_,_,_⟩:=dO iI.o
 go_enter Tryz.func35,Tryz.ntmps35
 go_upto_region 1 with (fail)
 rw[←HW1.o]
 go_wp2_with fail
 refine (H2.o w1 (aG _ _)).mono ?_
 rintro e w2 ⟨rfl,hb2⟩
 have B2:=ae hb2
 have C2:=ae ((hb2.block _ hz1).trans jJ.o)
 have D2:=ae ((hb2.block _ hz2).trans iI.o)
 clear hb2 z0 z1 z2 z3 z4 z5 z6 z7 y0 y1 y2 y3 y4 y5 y6 y7
 obtain⟨z0,z1,z2,z3,z4,z5,z6,z7,_,_,_,_,_,_,_,_⟩:=dO C2.o
 obtain⟨y0,y1,y2,y3,y4,y5,y6,y7,_,_,_,_,_,_,_,_⟩:=dO D2.o
 go_wp2_with fail
 refine (H3.o w2 B2.o).mono ?_
 rintro e w3 ⟨rfl,hb2⟩
 have B3:=ae (B2.o.trans (hb2.mono B2.o.size))
 clear hb2 z0 z1 z2 z3 z4 z5 z6 z7 y0 y1 y2 y3 y4 y5 y6 y7
 obtain⟨z0,z1,z2,z3,z4,z5,z6,z7,_,_,_,_,_,_,_,_⟩:=dO ((B3.o.block _ hz1).trans jJ.o)
 obtain⟨y0,y1,y2,y3,y4,y5,y6,y7,_,_,_,_,_,_,_,_⟩:=dO ((B3.o.block _ hz2).trans iI.o)
 go_wp2_with fail
 refine (H4.o w3 B3.o).mono ?_
 rintro e w4 ⟨rfl,hb2⟩
 have B4:=ae (B3.o.trans (hb2.mono B3.o.size))
 clear hb2 z0 z1 z2 z3 z4 z5 z6 z7 y0 y1 y2 y3 y4 y5 y6 y7
 obtain⟨z0,z1,z2,z3,z4,z5,z6,z7,_,_,_,_,_,_,_,_⟩:=dO ((B4.o.block _ hz1).trans jJ.o)
 obtain⟨y0,y1,y2,y3,y4,y5,y6,y7,_,_,_,_,_,_,_,_⟩:=dO ((B4.o.block _ hz2).trans iI.o)
 go_wp2_with fail
 refine (H5.o w4 B4.o).mono ?_
 rintro e w5 ⟨rfl,hb2⟩
 have B5:=ae (B4.o.trans (hb2.mono B4.o.size))
 clear hb2 z0 z1 z2 z3 z4 z5 z6 z7 y0 y1 y2 y3 y4 y5 y6 y7
 obtain⟨z0,z1,z2,z3,z4,z5,z6,z7,_,_,_,_,_,_,_,_⟩:=dO ((B5.o.block _ hz1).trans jJ.o)
 obtain⟨y0,y1,y2,y3,y4,y5,y6,y7,_,_,_,_,_,_,_,_⟩:=dO ((B5.o.block _ hz2).trans iI.o)
 go_wp2_with fail
 refine (H6.o w5 B5.o).mono ?_
 rintro e w6 ⟨rfl,hb2⟩
 have B6:=ae (B5.o.trans (hb2.mono B5.o.size))
 clear hb2 z0 z1 z2 z3 z4 z5 z6 z7 y0 y1 y2 y3 y4 y5 y6 y7
 obtain⟨z0,z1,z2,z3,z4,z5,z6,z7,_,_,_,_,_,_,_,_⟩:=dO ((B6.o.block _ hz1).trans jJ.o)
 obtain⟨y0,y1,y2,y3,y4,y5,y6,y7,_,_,_,_,_,_,_,_⟩:=dO ((B6.o.block _ hz2).trans iI.o)
 go_wp2_with fail
 refine (H7.o w6 B6.o).mono ?_
 rintro e w7 ⟨rfl,hb2⟩
 have B7:=ae (HB1.o.trans ((B6.o.trans (hb2.mono B6.o.size)).mono HB1.o.size))
 clear hb2
 go_wp2_with fail
 go_ret
 exact⟨rfl,B7.o⟩
theorem OY:∀ p,Jl p:=P.ind LD
def sG (w:World):Ending→World→Prop:=fun e w'=>(∃ b,e=.returned (.bool b))∧Below w.heap.size w w'
theorem vT (l l':List ByteArray)(hn:l.length≤9223372036854775807)(hn':l'.length≤9223372036854775807)(A B:Option Addr)(c d:Nat)(w:World)(hA:Lies w (LT w) A (strs l))(hB:Lies w (LT w) B (strs l')) :
 Calls Tryz.prog 73 #[.slice A l.length c,.slice B l'.length d] w (sG w):=by
 have HA:=ae hA
 have HB:=ae hB
 obtain⟨m,em⟩:∃ m,m=l.length:=⟨_,rfl⟩
 obtain⟨m',O0⟩:∃ m',m'=l'.length:=⟨_,rfl⟩
 have yt:=ae em
 have O1:=ae O0
 rw[←em] at hn ⊢
 rw[←O0] at hn' ⊢
 clear hA hB em O0
 by_cases hmm:m=m'
 ·subst hmm
  go_enter Tryz.func73,Tryz.ntmps73
  go_wp2_with fail
  go_loopw [13] (fun i wr=>∃ j:Nat,j≤m∧i=.int .i64 j∧Below w.heap.size w wr) (fun i _=>m-(intOf i).toNat)
  case atStart=>exact⟨0,aX _,rfl,aG _ _⟩
  case round =>
   obtain⟨j,hj,rfl,hb⟩:=hrel
   by_cases hlt:j<m
   ·obtain⟨x,hx⟩:=jF yt.o hlt
    obtain⟨y,hy⟩:=jF O1.o hlt
    obtain⟨b,o,rfl,h1,c1⟩:=Dh HA.o hx
    obtain⟨b2,o2,rfl,h2,c2⟩:=Dh HB.o hy
    have c1':=(hb.cell (p:=⟨b,o+j,none⟩) h1).trans c1
    have c2':=(hb.cell (p:=⟨b2,o2+j,none⟩) h2).trans c2
    have oL:=ae hb
    clear c1 c2 hx hy hb
    go_upto_region 6 with (fail)
    go_quiet (fail)
    go_wp2_with fail
    case roundEnd=>exact⟨⟨j+1,hlt,by simp,below_drewN oL.o _⟩,pG hlt⟩
    go_ret
    exact⟨⟨_,rfl⟩,below_drewN oL.o _⟩
   ·have oL:=ae hb
    go_wp2_with fail
    go_ret
    exact⟨⟨_,rfl⟩,oL.o⟩
 ·have hmn:¬((m:Int)=(m':Int)):=by omega
  go_enter Tryz.func73,Tryz.ntmps73
  go_wp2_with fail
  go_ret
  exact⟨⟨_,rfl⟩,aG _ _⟩
def Jm (e:E):Prop:=∀ (e':E)(A B:Option Addr)(c d:Nat)(w:World),iZ w w.heap.size A e.kids→iZ w w.heap.size B e'.kids→Calls Tryz.prog 72 #[e.val A c,e'.val B d] w (sG w)
theorem Ir (l l':List E)(hM:∀ e∈l,Jm e)(A B:Option Addr)(c d:Nat)(w:World)(hA:iZ w w.heap.size A l)(hB:iZ w w.heap.size B l') :
 Calls Tryz.prog 71 #[.slice A l.length c,.slice B l'.length d,.func (.func 72) #[] #[]] w (sG w):=by
 have hn:=hA.len
 have hn':=hB.len
 have HA:=ae hA.gy
 have HB:=ae hB.gy
 have HM:=ae hM
 obtain⟨m,em⟩:∃ m,m=l.length:=⟨_,rfl⟩
 obtain⟨m',O0⟩:∃ m',m'=l'.length:=⟨_,rfl⟩
 have yt:=ae em
 have O1:=ae O0
 rw[←em] at hn ⊢
 rw[←O0] at hn' ⊢
 clear hA hB em O0 hM
 by_cases hmm:m=m'
 ·subst hmm
  go_enter Tryz.func71,Tryz.ntmps71
  go_wp2_with fail
  go_loopw [17] (fun i wr=>∃ j:Nat,j≤m∧i=.int .i64 j∧Below w.heap.size w wr) (fun i _=>m-(intOf i).toNat)
  case atStart=>exact⟨0,aX _,rfl,aG _ _⟩
  case round =>
   obtain⟨j,hj,rfl,hb⟩:=hrel
   by_cases hlt:j<m
   ·obtain⟨x,hx⟩:=jF yt.o hlt
    obtain⟨y,hy⟩:=jF O1.o hlt
    obtain⟨b,o,A',c',rfl,hb1,a0,a1,a2,a3,hKa⟩:=HA.o _ hb j x hx
    obtain⟨wx,iK⟩:∃ wx,wx=wr.alloc (.cells #[.int .i64 x.k,.string x.s,.int .i64 x.n,.slice A' x.kids.length c'] 38):=⟨_,rfl⟩
    have hbx:Below wr.heap.size wr wx:=by rw[iK];exact (aG _ _).alloc (aF _) _
    have hnx:wx.heap[wr.heap.size]?=some (.cells #[.int .i64 x.k,.string x.s,.int .i64 x.n,.slice A' x.kids.length c'] 38 (0,0)):=by rw[iK];exact aH wr _
    have hbw:Below w.heap.size w wx:=hb.trans (hbx.mono hb.size)
    obtain⟨b2,o2,B',d',rfl,hb2,b0,b1,b2',b3,hKb⟩:=HB.o _ hbw j y hy
    obtain⟨wy,zY⟩:∃ wy,wy=wx.alloc (.cells #[.int .i64 y.k,.string y.s,.int .i64 y.n,.slice B' y.kids.length d'] 38):=⟨_,rfl⟩
    have hby:Below wx.heap.size wx wy:=by rw[zY];exact (aG _ _).alloc (aF _) _
    have hny:wy.heap[wx.heap.size]?=some (.cells #[.int .i64 y.k,.string y.s,.int .i64 y.n,.slice B' y.kids.length d'] 38 (0,0)):=by rw[zY];exact aH wx _
    have hnx2:=(hby.block _ (aU.1 hnx).1).trans hnx
    have D5:=ae (hbw.trans (hby.mono hbw.size))
    have lG:=ae (HM.o x (aN hx) y A' B' c' d' wy ((hKa.low (hbx.trans (hby.mono hbx.size))).more (hbx.trans (hby.mono hbx.size)).size) ((hKb.low hby).more hby.size))
    have ni:=ae iK
    have RS:=ae zY
    clear iK zY hbx hby hbw hnx hx hy hKa hKb
    obtain⟨xk,xs,xn,xl⟩:=x
    obtain⟨yk,ys,yn,yl⟩:=y
    simp only[E.val,E.k,E.s,E.n,E.kids] at a0 a1 a2 a3 b0 b1 b2' b3 lG ni RS hnx2 hny
    generalize xl.length=xm at *
    generalize yl.length=ym at *
    obtain⟨⟨e0,e1,e2,e3⟩,_,_,_,_⟩:=fQ hnx2
    obtain⟨⟨f0,f1,f2,f3⟩,_,_,_,_⟩:=fQ hny
    go_upto_region 6 with (fail)
    rw[←ni.o]
    go_upto_region 7 with (fail)
    rw[←RS.o]
    go_wp2_with fail
    refine (lG.o).mono ?_
    rintro e w3 ⟨⟨bb,rfl⟩,hb3⟩
    have HB3:=ae (D5.o.trans (hb3.mono D5.o.size))
    clear hb3
    cases bb
    ·go_wp2_with fail
     go_ret
     exact⟨⟨_,rfl⟩,HB3.o⟩
    ·go_wp2_with fail
     go_roundw
     case measure=>exact pG hlt
     case rel=>exact⟨j+1,hlt,by simp,HB3.o⟩
   ·have oL:=ae hb
    go_wp2_with fail
    go_ret
    exact⟨⟨_,rfl⟩,oL.o⟩
 ·have hmn:¬((m:Int)=(m':Int)):=by omega
  go_enter Tryz.func71,Tryz.ntmps71
  go_wp2_with fail
  go_ret
  exact⟨⟨_,rfl⟩,aG _ _⟩
theorem LH (k:Int)(s:ByteArray)(n:Int)(l:List E)(hM:∀ e∈l,Jm e):Jm (.mk k s n l):=by
 intro e' A B c d w hA hB
 obtain⟨k',s',n',l'⟩:=e'
 simp only[E.val,E.k,E.s,E.n,E.kids] at hA hB ⊢
 obtain⟨w1,dZ⟩:∃ w1,w1=(w.alloc (.cells #[.int .i64 k,.string s,.int .i64 n,.slice A l.length c] 38)).alloc (.cells #[.int .i64 k',.string s',.int .i64 n',.slice B l'.length d] 38):=⟨_,rfl⟩
 have hb1:Below w.heap.size w w1:=by rw[dZ];exact ((aG _ _).alloc (aF _) _).alloc (by simp) _
 have HC:=ae (Ir l l' hM A B c d w1 ((hA.low hb1).more hb1.size) ((hB.low hb1).more hb1.size))
 have HB1:=ae hb1
 have hx1:w1.heap[w.heap.size]?=some (.cells #[.int .i64 k,.string s,.int .i64 n,.slice A l.length c] 38 (0,0)):=by
  rw[dZ]
  exact (aP _ _ _ (by simp)).trans (aH w _)
 have hx2:w1.heap[w.heap.size+1]?=some (.cells #[.int .i64 k',.string s',.int .i64 n',.slice B l'.length d] 38 (0,0)):=by
  rw[dZ]
  have:=aH (w.alloc (.cells #[.int .i64 k,.string s,.int .i64 n,.slice A l.length c] 38)) (.cells #[.int .i64 k',.string s',.int .i64 n',.slice B l'.length d] 38)
  simpa using this
 have HW1:=ae dZ
 generalize l.length=m at *
 generalize l'.length=m' at *
 clear hA hB hM dZ hb1
 obtain⟨⟨e0,e1,e2,e3⟩,_,_,_,_⟩:=fQ hx1
 obtain⟨⟨f0,f1,f2,f3⟩,_,_,_,_⟩:=fQ hx2
 go_enter Tryz.func72,Tryz.ntmps72
 go_upto_region 1 with (fail)
 rw[←HW1.o]
 by_cases h1:k=k'
 ·subst h1
  cases h2:(s.toList==s'.toList)
  ·go_wp2_with fail
   go_ret
   exact⟨⟨_,rfl⟩,HB1.o⟩
  ·by_cases h3:n=n'
   ·subst h3
    go_wp2_with fail
    refine (HC.o).mono ?_
    rintro e w3 ⟨⟨bb,rfl⟩,hb3⟩
    have HB3:=ae (HB1.o.trans (hb3.mono HB1.o.size))
    clear hb3
    go_wp2_with fail
    go_ret
    exact⟨⟨_,rfl⟩,HB3.o⟩
   ·have h3':(n==n')=false:=beq_eq_false_iff_ne.2 h3
    go_wp2_with fail
    go_ret
    exact⟨⟨_,rfl⟩,HB1.o⟩
 ·have h1':(k==k')=false:=beq_eq_false_iff_ne.2 h1
  go_wp2_with fail
  go_ret
  exact⟨⟨_,rfl⟩,HB1.o⟩
theorem O3:∀ e,Jm e:=E.ind LH
theorem VJ (xn xf xc yn yf yc:ByteArray):∃ b:Bool,∀ w:World,
 (binOp .neq 46 (.agg #[.string xn,.string xf,.string xc]) (.agg #[.string yn,.string yf,.string yc])).run Tryz.prog w=.ok (.bool b) w:=by
 have hS:Tryz.prog.underlying 46=some (.struct (Tryz.prog.fieldsOf 46)):=by kernel_rfl
 have hp:Tryz.prog.stoodInHeld 46=false:=by kernel_rfl
 have u3:=Tryz.underlying9
 cases h1:(xn.toList==yn.toList) <;> cases h2:(xf.toList==yf.toList) <;> cases h3:(xc.toList==yc.toList)
 all_goals first
  | (refine⟨true,fun w=>?_⟩;rw[run_neq_struct,show (10000:Nat)=9999+1 from rfl,run_equalIn_agg w 9999 _ _ _ hS hp];simp only[Program.fieldsOf,Tryz.underlying46];go_simp;done)
  | (refine⟨false,fun w=>?_⟩;rw[run_neq_struct,show (10000:Nat)=9999+1 from rfl,run_equalIn_agg w 9999 _ _ _ hS hp];simp only[Program.fieldsOf,Tryz.underlying46];go_simp;done)
theorem VK (l l':List Ag)(hn:l.length≤9223372036854775807)(hn':l'.length≤9223372036854775807)(A B:Option Addr)(c d:Nat)(w:World)(hA:Lies w (LT w) A (jd l))(hB:Lies w (LT w) B (jd l')) :
 Calls Tryz.prog 74 #[.slice A l.length c,.slice B l'.length d] w (sG w):=by
 have HA:=ae hA
 have HB:=ae hB
 obtain⟨m,em⟩:∃ m,m=l.length:=⟨_,rfl⟩
 obtain⟨m',O0⟩:∃ m',m'=l'.length:=⟨_,rfl⟩
 have yt:=ae em
 have O1:=ae O0
 rw[←em] at hn ⊢
 rw[←O0] at hn' ⊢
 clear hA hB em O0
 by_cases hmm:m=m'
 ·subst hmm
  go_enter Tryz.func74,Tryz.ntmps74
  go_wp2_with fail
  go_loopw [13] (fun i wr=>∃ j:Nat,j≤m∧i=.int .i64 j∧Below w.heap.size w wr) (fun i _=>m-(intOf i).toNat)
  case atStart=>exact⟨0,aX _,rfl,aG _ _⟩
  case round =>
   obtain⟨j,hj,rfl,hb⟩:=hrel
   by_cases hlt:j<m
   ·obtain⟨x,hx⟩:=jF yt.o hlt
    obtain⟨y,hy⟩:=jF O1.o hlt
    obtain⟨b,o,rfl,h1,a0,a1,a2⟩:=zH HA.o hx
    obtain⟨b2,o2,rfl,h2,b0,b1,b2'⟩:=zH HB.o hy
    have c0:=(hb.cell (p:=⟨b,o+j*3,none⟩) h1).trans a0
    have c1:=(hb.cell (p:=⟨b,o+j*3+1,none⟩) h1).trans a1
    have c2:=(hb.cell (p:=⟨b,o+j*3+2,none⟩) h1).trans a2
    have d0:=(hb.cell (p:=⟨b2,o2+j*3,none⟩) h2).trans b0
    have d1:=(hb.cell (p:=⟨b2,o2+j*3+1,none⟩) h2).trans b1
    have d2:=(hb.cell (p:=⟨b2,o2+j*3+2,none⟩) h2).trans b2'
    have oL:=ae hb
    obtain⟨an,af,ac⟩:=x
    obtain⟨yn,yf,yc⟩:=y
    obtain⟨bb,hq⟩:=VJ an af ac yn yf yc
    clear a0 a1 a2 b0 b1 b2' hx hy hb
    go_upto_region 6 with (fail)
    cases bb
    ·go_quiet (fail)
     go_wp2_with fail
     go_roundw
     case measure=>exact pG hlt
     case rel=>exact⟨j+1,hlt,by simp,below_drewN oL.o _⟩
    ·go_quiet (fail)
     go_wp2_with fail
     go_ret
     exact⟨⟨_,rfl⟩,below_drewN oL.o _⟩
   ·have oL:=ae hb
    go_wp2_with fail
    go_ret
    exact⟨⟨_,rfl⟩,oL.o⟩
 ·have hmn:¬((m:Int)=(m':Int)):=by omega
  go_enter Tryz.func74,Tryz.ntmps74
  go_wp2_with fail
  go_ret
  exact⟨⟨_,rfl⟩,aG _ _⟩
def Di (p:P):Prop:=∀ (q:P)(a b:PA)(w:World),kY w (LT w) p a→kY w (LT w) q b→Calls Tryz.prog 35 #[p.val a,q.val b] w (sG w)
theorem SY (l l':List P)(hM:∀ e∈l,Di e)(A B:Option Addr)(c d:Nat)(w:World)(hn:l.length≤9223372036854775807)(hn':l'.length≤9223372036854775807)(hA:CE w (LT w) A l)(hB:CE w (LT w) B l') :
 Calls Tryz.prog 75 #[.slice A l.length c,.slice B l'.length d,.func (.func 35) #[] #[]] w (sG w):=by
 have HA:=ae hA
 have HB:=ae hB
 have HM:=ae hM
 obtain⟨m,em⟩:∃ m,m=l.length:=⟨_,rfl⟩
 obtain⟨m',O0⟩:∃ m',m'=l'.length:=⟨_,rfl⟩
 have yt:=ae em
 have O1:=ae O0
 rw[←em] at hn ⊢
 rw[←O0] at hn' ⊢
 clear hA hB em O0 hM
 by_cases hmm:m=m'
 ·subst hmm
  go_enter Tryz.func75,Tryz.ntmps75
  go_wp2_with fail
  go_loopw [17] (fun i wr=>∃ j:Nat,j≤m∧i=.int .i64 j∧Below w.heap.size w wr) (fun i _=>m-(intOf i).toNat)
  case atStart=>exact⟨0,aX _,rfl,aG _ _⟩
  case round =>
   obtain⟨j,hj,rfl,hb⟩:=hrel
   by_cases hlt:j<m
   ·obtain⟨x,hx⟩:=jF yt.o hlt
    obtain⟨y,hy⟩:=jF O1.o hlt
    obtain⟨b,o,a1,rfl,hb1,hc1,hp1⟩:=HA.o.gy hb hx
    have m0:=hc1 0 _ rfl
    have m1:=hc1 1 _ rfl
    have m2:=hc1 2 _ rfl
    have m3:=hc1 3 _ rfl
    have m4:=hc1 4 _ rfl
    have m5:=hc1 5 _ rfl
    have m6:=hc1 6 _ rfl
    have m7:=hc1 7 _ rfl
    rw[Nat.add_zero] at m0
    obtain⟨wx,iK⟩:∃ wx,wx=wr.alloc (.cells #[.int .i64 x.k,.string x.nm,.slice a1.ea x.ex.length a1.ec,.slice a1.ca x.cols.length a1.cc,.slice a1.la x.left.length a1.lc,.slice a1.ra x.right.length a1.rc,.slice a1.ga x.ag.length a1.gc,.slice a1.ka x.kids.length a1.kc] 27):=⟨_,rfl⟩
    have hbx:Below wr.heap.size wr wx:=by rw[iK];exact (aG _ _).alloc (aF _) _
    have hnx:wx.heap[wr.heap.size]?=some (.cells #[.int .i64 x.k,.string x.nm,.slice a1.ea x.ex.length a1.ec,.slice a1.ca x.cols.length a1.cc,.slice a1.la x.left.length a1.lc,.slice a1.ra x.right.length a1.rc,.slice a1.ga x.ag.length a1.gc,.slice a1.ka x.kids.length a1.kc] 27 (0,0)):=by rw[iK];exact aH wr _
    have hbw:Below w.heap.size w wx:=hb.trans (hbx.mono hb.size)
    obtain⟨b2,o2,a2,rfl,hb2,hc2,hp2⟩:=HB.o.gy hbw hy
    have k0:=hc2 0 _ rfl
    have k1:=hc2 1 _ rfl
    have k2:=hc2 2 _ rfl
    have k3:=hc2 3 _ rfl
    have k4:=hc2 4 _ rfl
    have k5:=hc2 5 _ rfl
    have k6:=hc2 6 _ rfl
    have k7:=hc2 7 _ rfl
    rw[Nat.add_zero] at k0
    obtain⟨wy,zY⟩:∃ wy,wy=wx.alloc (.cells #[.int .i64 y.k,.string y.nm,.slice a2.ea y.ex.length a2.ec,.slice a2.ca y.cols.length a2.cc,.slice a2.la y.left.length a2.lc,.slice a2.ra y.right.length a2.rc,.slice a2.ga y.ag.length a2.gc,.slice a2.ka y.kids.length a2.kc] 27):=⟨_,rfl⟩
    have hby:Below wx.heap.size wx wy:=by rw[zY];exact (aG _ _).alloc (aF _) _
    have hny:wy.heap[wx.heap.size]?=some (.cells #[.int .i64 y.k,.string y.nm,.slice a2.ea y.ex.length a2.ec,.slice a2.ca y.cols.length a2.cc,.slice a2.la y.left.length a2.lc,.slice a2.ra y.right.length a2.rc,.slice a2.ga y.ag.length a2.gc,.slice a2.ka y.kids.length a2.kc] 27 (0,0)):=by rw[zY];exact aH wx _
    have hnx2:=(hby.block _ (aU.1 hnx).1).trans hnx
    have D5:=ae (hbw.trans (hby.mono hbw.size))
    have hcl:=HM.o x (aN hx) y a1 a2 wy (hp1.low (hbx.trans (hby.mono hbx.size))) (hp2.low hby)
    simp only[P.val] at hcl
    have lG:=ae hcl
    have ni:=ae iK
    have RS:=ae zY
    clear iK zY hbx hby hbw hnx hx hy hc1 hc2 hp1 hp2 hcl
    generalize x.k=xk at *
    generalize x.nm=JH at *
    generalize x.ex.length=x1 at *
    generalize x.cols.length=x2 at *
    generalize x.left.length=x3 at *
    generalize x.right.length=x4 at *
    generalize x.ag.length=x5 at *
    generalize x.kids.length=x6 at *
    generalize y.k=v0 at *
    generalize y.nm=v1 at *
    generalize y.ex.length=v2 at *
    generalize y.cols.length=v3 at *
    generalize y.left.length=v4 at *
    generalize y.right.length=v5 at *
    generalize y.ag.length=v6 at *
    generalize y.kids.length=v7 at *
    obtain⟨qa,qb,qc,qd,qe,qf,qg,qh,qi,qj,qk,ql⟩:=a1
    obtain⟨ra,rb,rc,rd,re,rf,rg,rh,ri,rj,rk,rl⟩:=a2
    simp only at m0 m1 m2 m3 m4 m5 m6 m7 k0 k1 k2 k3 k4 k5 k6 k7 lG ni RS hnx2 hny
    obtain⟨z0,z1,z2,z3,z4,z5,z6,z7,_,_,_,_,_,_,_,_⟩:=dO hnx2
    obtain⟨y0,y1,y2,y3,y4,y5,y6,y7,_,_,_,_,_,_,_,_⟩:=dO hny
    go_upto_region 6 with (fail)
    rw[←ni.o]
    go_upto_region 7 with (fail)
    rw[←RS.o]
    go_wp2_with fail
    refine (lG.o).mono ?_
    rintro e w3 ⟨⟨bb,rfl⟩,hb3⟩
    have HB3:=ae (D5.o.trans (hb3.mono D5.o.size))
    clear hb3
    cases bb
    ·go_wp2_with fail
     go_ret
     exact⟨⟨_,rfl⟩,HB3.o⟩
    ·go_wp2_with fail
     go_roundw
     case measure=>exact pG hlt
     case rel=>exact⟨j+1,hlt,by simp,HB3.o⟩
   ·have oL:=ae hb
    go_wp2_with fail
    go_ret
    exact⟨⟨_,rfl⟩,oL.o⟩
 ·have hmn:¬((m:Int)=(m':Int)):=by omega
  go_enter Tryz.func75,Tryz.ntmps75
  go_wp2_with fail
  go_ret
  exact⟨⟨_,rfl⟩,aG _ _⟩
theorem O4 (k:Int)(nm:ByteArray)(ex:List E)(cols left right:List ByteArray)(ag:List Ag)(kids:List P)(hM:∀ p∈kids,Di p):Di (.mk k nm ex cols left right ag kids):=by
 intro q a b w hA hB
 obtain⟨k',nm',ex',LJ,left',right',ag',LK⟩:=q
 obtain⟨⟨hE,hC,U2,hR,hG,q1,q2,⟨q3,-⟩,⟨q4,-⟩,q5⟩,JK⟩:=hA
 obtain⟨⟨gE,gC,gLf,gR,gG,p1,p2,⟨p3,-⟩,⟨p4,-⟩,p5⟩,ZT⟩:=hB
 obtain⟨ea,ec,ca,cc,la,lc,ra,rc,ga,gc,ka,kc⟩:=a
 obtain⟨OQ,OT,ca',cc',la',OU,OV,rc',ga',gc',OW,OX⟩:=b
 simp only[P.val,P.k,P.nm,P.ex,P.cols,P.left,P.right,P.ag,P.kids] at hE hC U2 hR hG JK gE gC gLf gR gG ZT q1 q2 q3 q4 q5 p1 p2 p3 p4 p5 ⊢
 have q6:=JK.len
 have p6:=ZT.len
 obtain⟨w1,dZ⟩:∃ w1,w1=(w.alloc (.cells #[.int .i64 k,.string nm,.slice ea ex.length ec,.slice ca cols.length cc,.slice la left.length lc,.slice ra right.length rc,.slice ga ag.length gc,.slice ka kids.length kc] 27)).alloc (.cells #[.int .i64 k',.string nm',.slice OQ ex'.length OT,.slice ca' LJ.length cc',.slice la' left'.length OU,.slice OV right'.length rc',.slice ga' ag'.length gc',.slice OW LK.length OX] 27):=⟨_,rfl⟩
 have hb1:Below w.heap.size w w1:=by rw[dZ];exact ((aG _ _).alloc (aF _) _).alloc (by simp) _
 have hs1:w1.heap.size=w.heap.size+2:=by rw[dZ];simp
 have jJ:Hid (w1.heap[w.heap.size]?=some (.cells #[.int .i64 k,.string nm,.slice ea ex.length ec,.slice ca cols.length cc,.slice la left.length lc,.slice ra right.length rc,.slice ga ag.length gc,.slice ka kids.length kc] 27 (0,0))):=ae (by
  rw[dZ]
  exact (aP _ _ _ (by simp)).trans (aH w _))
 have iI:Hid (w1.heap[w.heap.size+1]?=some (.cells #[.int .i64 k',.string nm',.slice OQ ex'.length OT,.slice ca' LJ.length cc',.slice la' left'.length OU,.slice OV right'.length rc',.slice ga' ag'.length gc',.slice OW LK.length OX] 27 (0,0))):=ae (by
  rw[dZ]
  have:=aH (w.alloc (.cells #[.int .i64 k,.string nm,.slice ea ex.length ec,.slice ca cols.length cc,.slice la left.length lc,.slice ra right.length rc,.slice ga ag.length gc,.slice ka kids.length kc] 27)) (.cells #[.int .i64 k',.string nm',.slice OQ ex'.length OT,.slice ca' LJ.length cc',.slice la' left'.length OU,.slice OV right'.length rc',.slice ga' ag'.length gc',.slice OW LK.length OX] 27)
  simpa using this)
 have hw:∀ w',Below w1.heap.size w1 w'→Below w.heap.size w w':=fun w' h=>hb1.trans (h.mono hb1.size)
 have hlo:∀ w',Below w1.heap.size w1 w'→∀ A vs,Lies w (LT w) A vs→Lies w' (LT w') A vs:=fun w' h A vs hl=>(hl.kept fun k hk=>(hw w' h).block k hk).mono fun k hk=>aK hk (hw w' h).size
 have H2:=ae (fun w' (h:Below w1.heap.size w1 w')=>Ir ex ex' (fun e _=>O3 e) ea OQ ec OT w' (((hE.to fun k h=>h).low (hw w' h)).more (hw w' h).size) (((gE.to fun k h=>h).low (hw w' h)).more (hw w' h).size))
 have H3:=ae (fun w' (h:Below w1.heap.size w1 w')=>vT cols LJ q2 p2 ca ca' cc cc' w' (hlo w' h _ _ hC) (hlo w' h _ _ gC))
 have H4:=ae (fun w' (h:Below w1.heap.size w1 w')=>vT left left' q3 p3 la la' lc OU w' (hlo w' h _ _ U2) (hlo w' h _ _ gLf))
 have H5:=ae (fun w' (h:Below w1.heap.size w1 w')=>vT right right' q4 p4 ra OV rc rc' w' (hlo w' h _ _ hR) (hlo w' h _ _ gR))
 have H6:=ae (fun w' (h:Below w1.heap.size w1 w')=>VK ag ag' q5 p5 ga ga' gc gc' w' (hlo w' h _ _ hG) (hlo w' h _ _ gG))
 have H7:=ae (fun w' (h:Below w1.heap.size w1 w')=>SY kids LK hM ka OW kc OX w' q6 p6 ((JK.kept fun k hk=>(hw w' h).block k hk).mono fun k hk=>aK hk (hw w' h).size) ((ZT.kept fun k hk=>(hw w' h).block k hk).mono fun k hk=>aK hk (hw w' h).size))
 have HB1:=ae hb1
 have HW1:=ae dZ
 have hz1:w.heap.size<w1.heap.size:=by omega
 have hz2:w.heap.size+1<w1.heap.size:=by omega
 generalize ex.length=n1 at *
 generalize cols.length=n2 at *
 generalize left.length=n3 at *
 generalize right.length=n4 at *
 generalize ag.length=n5 at *
 generalize kids.length=n6 at *
 generalize ex'.length=o1 at *
 generalize LJ.length=o2 at *
 generalize left'.length=o3 at *
 generalize right'.length=o4 at *
 generalize ag'.length=o5 at *
 generalize LK.length=o6 at *
 clear p1 p2 p3 p4 p5 p6 hE hC U2 hR hG JK gE gC gLf gR gG ZT q1 q2 q3 q4 q5 q6 dZ hb1 hs1 hw hlo hM
 obtain⟨z0,z1,z2,z3,z4,z5,z6,z7,_,_,_,_,_,_,_,_⟩:=dO jJ.o
 obtain⟨y0,y1,y2,y3,y4,y5,y6,y7,_,_,_,_,_,_,_,_⟩:=dO iI.o
 go_enter Tryz.func35,Tryz.ntmps35
 go_upto_region 1 with (fail)
 rw[←HW1.o]
 by_cases h1:k=k'
 ·subst h1
  cases h2:(nm.toList==nm'.toList)
  ·go_wp2_with fail
   go_ret
   exact⟨⟨_,rfl⟩,HB1.o⟩
  ·go_wp2_with fail
   refine (H2.o w1 (aG _ _)).mono ?_
   rintro e w2 ⟨⟨bb,rfl⟩,hb2⟩
   have B2:=ae hb2
   have C2:=ae ((hb2.block _ hz1).trans jJ.o)
   have D2:=ae ((hb2.block _ hz2).trans iI.o)
   clear hb2 z0 z1 z2 z3 z4 z5 z6 z7 y0 y1 y2 y3 y4 y5 y6 y7
   obtain⟨z0,z1,z2,z3,z4,z5,z6,z7,_,_,_,_,_,_,_,_⟩:=dO C2.o
   obtain⟨y0,y1,y2,y3,y4,y5,y6,y7,_,_,_,_,_,_,_,_⟩:=dO D2.o
   obtain rfl|rfl:bb=false∨bb=true:=by cases bb <;> simp
   ·go_wp2_with fail
    go_ret
    exact⟨⟨_,rfl⟩,HB1.o.trans (B2.o.mono HB1.o.size)⟩
   go_wp2_with fail
   refine (H3.o w2 B2.o).mono ?_
   rintro e w3 ⟨⟨bb,rfl⟩,hb2⟩
   have B3:=ae (B2.o.trans (hb2.mono B2.o.size))
   clear hb2 z0 z1 z2 z3 z4 z5 z6 z7 y0 y1 y2 y3 y4 y5 y6 y7
   obtain⟨z0,z1,z2,z3,z4,z5,z6,z7,_,_,_,_,_,_,_,_⟩:=dO ((B3.o.block _ hz1).trans jJ.o)
   obtain⟨y0,y1,y2,y3,y4,y5,y6,y7,_,_,_,_,_,_,_,_⟩:=dO ((B3.o.block _ hz2).trans iI.o)
   obtain rfl|rfl:bb=false∨bb=true:=by cases bb <;> simp
   ·go_wp2_with fail
    go_ret
    exact⟨⟨_,rfl⟩,HB1.o.trans (B3.o.mono HB1.o.size)⟩
   go_wp2_with fail
   refine (H4.o w3 B3.o).mono ?_
   rintro e w4 ⟨⟨bb,rfl⟩,hb2⟩
   have B4:=ae (B3.o.trans (hb2.mono B3.o.size))
   clear hb2 z0 z1 z2 z3 z4 z5 z6 z7 y0 y1 y2 y3 y4 y5 y6 y7
   obtain⟨z0,z1,z2,z3,z4,z5,z6,z7,_,_,_,_,_,_,_,_⟩:=dO ((B4.o.block _ hz1).trans jJ.o)
   obtain⟨y0,y1,y2,y3,y4,y5,y6,y7,_,_,_,_,_,_,_,_⟩:=dO ((B4.o.block _ hz2).trans iI.o)
   obtain rfl|rfl:bb=false∨bb=true:=by cases bb <;> simp
   ·go_wp2_with fail
    go_ret
    exact⟨⟨_,rfl⟩,HB1.o.trans (B4.o.mono HB1.o.size)⟩
   go_wp2_with fail
   refine (H5.o w4 B4.o).mono ?_
   rintro e w5 ⟨⟨bb,rfl⟩,hb2⟩
   have B5:=ae (B4.o.trans (hb2.mono B4.o.size))
   clear hb2 z0 z1 z2 z3 z4 z5 z6 z7 y0 y1 y2 y3 y4 y5 y6 y7
   obtain⟨z0,z1,z2,z3,z4,z5,z6,z7,_,_,_,_,_,_,_,_⟩:=dO ((B5.o.block _ hz1).trans jJ.o)
   obtain⟨y0,y1,y2,y3,y4,y5,y6,y7,_,_,_,_,_,_,_,_⟩:=dO ((B5.o.block _ hz2).trans iI.o)
   obtain rfl|rfl:bb=false∨bb=true:=by cases bb <;> simp
   ·go_wp2_with fail
    go_ret
    exact⟨⟨_,rfl⟩,HB1.o.trans (B5.o.mono HB1.o.size)⟩
   go_wp2_with fail
   refine (H6.o w5 B5.o).mono ?_
   rintro e w6 ⟨⟨bb,rfl⟩,hb2⟩
   have B6:=ae (B5.o.trans (hb2.mono B5.o.size))
   clear hb2 z0 z1 z2 z3 z4 z5 z6 z7 y0 y1 y2 y3 y4 y5 y6 y7
   obtain⟨z0,z1,z2,z3,z4,z5,z6,z7,_,_,_,_,_,_,_,_⟩:=dO ((B6.o.block _ hz1).trans jJ.o)
   obtain⟨y0,y1,y2,y3,y4,y5,y6,y7,_,_,_,_,_,_,_,_⟩:=dO ((B6.o.block _ hz2).trans iI.o)
   obtain rfl|rfl:bb=false∨bb=true:=by cases bb <;> simp
   ·go_wp2_with fail
    go_ret
    exact⟨⟨_,rfl⟩,HB1.o.trans (B6.o.mono HB1.o.size)⟩
   go_wp2_with fail
   refine (H7.o w6 B6.o).mono ?_
   rintro e w7 ⟨⟨bb,rfl⟩,hb2⟩
   have B7:=ae (HB1.o.trans ((B6.o.trans (hb2.mono B6.o.size)).mono HB1.o.size))
   clear hb2
   go_wp2_with fail
   go_ret
   exact⟨⟨_,rfl⟩,B7.o⟩
 ·have h1':(k==k')=false:=beq_eq_false_iff_ne.2 h1
  go_wp2_with fail
  go_ret
  exact⟨⟨_,rfl⟩,HB1.o⟩
theorem S9:∀ p,Di p:=P.ind O4
end Go.Proofs.YtjhkihkiebnpaaaGreatDoor
