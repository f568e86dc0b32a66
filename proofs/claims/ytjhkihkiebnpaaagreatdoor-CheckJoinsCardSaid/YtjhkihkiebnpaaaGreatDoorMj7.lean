/-
  The reference's reader of brackets: texts.
-/
import Derived.Test.YtjhkihkiebnpaaaGreatDoorMj0
import Derived.Test.YtjhkihkiebnpaaaGreatDoorMj20
import Derived.Test.YtjhkihkiebnpaaaGreatDoorMj4
import Derived.Test.YtjhkihkiebnpaaaGreatDoorMj3
import Derived.Deep.RegionLaw
import Derived.Laws.IdiomStrings
import Derived.Deep.RegionHeld3
import Derived.Test.YtjhkihkiebnpaaaGreatDoorMj1
set_option linter.unusedVariables false
set_option linter.unusedSimpArgs false
set_option maxRecDepth 100000
set_option maxHeartbeats 40000000
namespace Go.Proofs.YtjhkihkiebnpaaaGreatDoor
open Go.RowKit
theorem jI {fn:Func} {t u v x:Tmp} (h:fn.results=#[.tmp t,.tmp u,.tmp v,.tmp x])(tmps:Array Value)(P:Program)(w:World) :
 (results fn tmps).run P w=.ok (.tuple #[tmps.getD t undef,tmps.getD u undef,tmps.getD v undef,tmps.getD x undef]) w:=by
 simp[results,h]
theorem KZ:(Tryz.prog.info? 5).map (fun i=>(i.zero,i.size,i.bytes))=some (some (.int .u8 0),1,1):=by kernel_rfl
def A8 (b:UInt8):Value:=.int .u8 (b.toNat:Int)
def xU (l:List UInt8):List Value:=l.map A8
theorem adY (x:Int):∃ b:UInt8,A8 b=.int .u8 (IntKind.u8.wrap x):=by
 have h:0≤IntKind.u8.wrap x∧IntKind.u8.wrap x<256:=by
  unfold IntKind.wrap
  simp[IntKind.bits,IntKind.signed]
  omega
 refine⟨UInt8.ofNat (IntKind.u8.wrap x).toNat,?_⟩
 unfold A8
 congr 1
 rw[UInt8.toNat_ofNat']
 omega
def X7 (s:ByteArray)(p:Nat)(e:Ending):Prop:=∃ (x:ByteArray)(i:Nat)(why at_:Int),e=.returned (.tuple #[.string x,.int .i64 (i:Int),.int .i64 why,.int .i64 at_])∧i≤s.size∧x.size≤40∧(why=0→p<i)
theorem Oy (s:ByteArray)(p:Nat)(hp:p<s.size)(hs:s.size≤600)(w:World):Calls Tryz.prog 123 #[.string s,.int .i64 (p:Int)] w fun e w'=>X7 s p e∧Below w.heap.size w w':=by
 have hH:=ae (fun c w=>Sl c w)
 obtain⟨w1,dZ⟩:∃ w1,w1=w.alloc (.cells #[] 5):=⟨_,rfl⟩
 have hb1:Below w.heap.size w w1:=by rw[dZ];exact (aG _ _).alloc (aF _) _
 have hws:w1.heap.size=w.heap.size+1:=by rw[dZ];simp
 have HB1:=ae hb1
 have X8:Hid (w1.ownsRow w.heap.size 5 1 (.slice (some ⟨w.heap.size,0,none⟩) 0 0) 0 (xU [])):=ae ⟨rfl,.inr ⟨w.heap.size,0,#[],rfl,aF _,by rw[dZ];exact aH w _,aF _,by decide,rfl,rfl⟩⟩
 have HW1:=ae dZ
 obtain⟨i0,hi,hz0,hz1,hz2⟩:=info_parts KZ
 clear dZ hb1
 go_enter Tryz.func123,Tryz.ntmps123
 go_upto_region 2 with (fail)
 rw[←HW1.o]
 go_wp2_with fail
 go_loopw [8,9] (fun v i wr=>∃ (j:Nat)(l:List UInt8),p<j∧j≤s.size∧l.length≤j∧i=.int .i64 j∧wr.ownsRow w.heap.size 5 1 v l.length (xU l)∧Below w.heap.size w wr∧w.heap.size+1≤wr.heap.size∧∃ g cap,v=.slice (some ⟨g,0,none⟩) l.length cap) (fun _ i _=>s.size+1-(intOf i).toNat)
 case atStart=>exact⟨p+1,[],by omega,by omega,by simp,by go_num,X8.o,HB1.o,by omega,_,_,rfl⟩
 case round =>
  obtain⟨j,l,hj0,hj,hlj,rfl,hown,hb,hsz,g,cap,rfl⟩:=hrel
  have HO:=ae hown
  have HB:=ae hb
  clear hown hb
  by_cases hlt:j<s.size
  ·cases uJ:((s[j].toNat:Int)==34)
   ·cases h32:decide ((s[j].toNat:Int)<32)
    ·cases aaO:decide (126<(s[j].toNat:Int))
     ·cases FZ:((s[j].toNat:Int) != 92)
      ·have hdj:decide (s.size≤j)=false:=by simp;omega
       go_upto_region 15 with (fail)
       go_wp2_with fail
       go_loop [11] (fun i=>∃ m:Nat,1≤m∧m≤3∧i=.int .i64 m∧j+m≤s.size) (fun i=>3-(intOf i).toNat)
       case atStart=>exact⟨1,by omega,by omega,by go_num,by omega⟩
       case round =>
        obtain⟨m,hm1,NI,rfl,hjm⟩:=hrel
        by_cases hm:m≤2
        ·by_cases hjs:j+m<s.size
         ·go_wp2_with fail
          refine (hH.o _ _).mono ?_
          rintro e w' ⟨⟨h,rfl,b1,b2⟩,rfl⟩
          cases hh0:decide (h<0)
          ·go_wp2_with fail
           go_round
           case rel=>exact⟨m+1,by omega,by omega,by go_num,by omega⟩
           case measure=>simp[intOf];omega
          ·go_wp2_with fail
           (try simp only[Exit.inBlock,Exit.then])
           refine aJ (jI rfl _ _ _) rfl ?_
           exact⟨⟨⟨#[]⟩,0,_,_,rfl,by omega,by decide,by intro h;simp at h⟩,HB.o⟩
         ·go_wp2_with fail
          (try simp only[Exit.inBlock,Exit.then])
          refine aJ (jI rfl _ _ _) rfl ?_
          exact⟨⟨⟨#[]⟩,0,_,_,rfl,by omega,by decide,by intro h;simp at h⟩,HB.o⟩
        ·obtain rfl:m=3:=by omega
         have gZ:Hid (wr.drew.ownsRow w.heap.size 5 1 (.slice (some ⟨g,0,none⟩) l.length cap) l.length (xU l)):=ae (own_below HO.o ((aG wr.heap.size wr).drew))
         obtain⟨j1,hj1⟩:∃ j1,j1=j+1:=⟨_,rfl⟩
         obtain⟨j2,hj2⟩:∃ j2,j2=j+2:=⟨_,rfl⟩
         have e1:IntKind.i64.wrap ((j:Int)+1)=(j1:Int):=by rw[hj1];unfold IntKind.wrap;simp[IntKind.bits,IntKind.signed];omega
         have e2:IntKind.i64.wrap ((j:Int)+2)=(j2:Int):=by rw[hj2];unfold IntKind.wrap;simp[IntKind.bits,IntKind.signed];omega
         have l1:j1<s.size:=by omega
         have l2:j2<s.size:=by omega
         have HJ:=ae (bU hj1 hj2)
         clear hj1 hj2
         go_upto_region 22 with (fail)
         go_region_law (first
          | (refine step_append_lies _ rfl _ _ _ rfl w.heap.size 5 i0 _ 1 1 Tryz.underlying151 hi hz0 hz1 hz2 rfl (by decide) _ _ _ rfl (gZ.o.alloc _) ⟨wr.heap.size,0,none⟩ 1 1 [_] rfl rfl (bz (aH wr.drew _)) (by intro u hu;simp at hu;subst hu;rfl) (by decide) (by unfold maxLen;omega) (by omega) (by simp;omega) _ rfl ?_;intro g5 cap5 w5 hown5 hgrow hat hlt)
          | (go_simp;go_at_call 154;refine (hH.o _ _).mono ?_;rintro e w' ⟨⟨h,rfl,b1,b2⟩,rfl⟩))
         all_goals
          obtain⟨hj1,hj2⟩:=HJ.o
          have JJ:=((HB.o.trans ((aG wr.heap.size wr).drew.mono (by omega))).trans (((aG wr.heap.size wr.drew).alloc (aF _) _).mono (by omega))).grown hgrow (by simp;omega) (fun g hg=>(HO.o.lt g hg).1)
          have hS5:=hgrow.size
          go_wp2_with fail
          go_roundw
          case rel =>
           obtain⟨x,hx⟩:∃ x:Int,w5.ownsRow w.heap.size 5 1 (.slice (some ⟨g5,0,none⟩) (l.length+1) cap5) (l.length+1) (xU l++[.int .u8 (IntKind.u8.wrap x)]):=⟨_,hown5⟩
           obtain⟨b,eb⟩:=adY x
           rw[←eb] at hx
           exact⟨j+3,l++[b],by omega,by omega,by simp;omega,by go_num,by simpa [xU] using hx,JJ,by simp at hS5;omega,g5,cap5,by simp⟩
          case measure=>simp[intOf];omega
      ·go_wp2_with (at_builtin;refine wpList_append_own _ rfl _ _ 151 rfl w.heap.size 5 i0 _ 1 1 Tryz.underlying151 hi hz0 hz1 hz2 rfl (by decide) _ _ _ rfl (HO.o.alloc _) ⟨wr.heap.size,0,none⟩ 1 1 [A8 s[j]] rfl rfl ?c1 ?c2 ?c3 ?c4 ?c5 ?_)
       case c1=>exact bz (aH wr _)
       case c2=>intro u hu;simp at hu;subst hu;rfl
       case c3=>unfold maxLen;omega
       case c4=>omega
       case c5=>simp;omega
       intro v' w5 hown5 hgrow _
       have JJ:=((HB.o.alloc (by omega) (.cells #[A8 s[j]] 5)).grown hgrow (by simp;omega) (fun g hg=>(HO.o.lt g hg).1))
       have hS5:=hgrow.size
       obtain⟨g5,cap5,XA,_⟩:=hown5.form (by omega)
       go_wp2_with fail
       go_roundw
       case rel=>exact⟨j+1,l++[s[j]],by omega,by omega,by simp;omega,by go_num,by simpa [xU] using hown5,JJ,by simp at hS5;omega,g5,cap5,by rw[XA];simp⟩
       case measure=>simp[intOf];omega
     ·go_wp2_with fail
      (try simp only[Exit.inBlock,Exit.then])
      refine aJ (jI rfl _ _ _) rfl ?_
      exact⟨⟨⟨#[]⟩,0,_,_,rfl,by omega,by decide,by intro h;simp at h⟩,HB.o⟩
    ·go_wp2_with fail
     (try simp only[Exit.inBlock,Exit.then])
     refine aJ (jI rfl _ _ _) rfl ?_
     exact⟨⟨⟨#[]⟩,0,_,_,rfl,by omega,by decide,by intro h;simp at h⟩,HB.o⟩
   ·have hcv:(Go.convert 151 9 (.slice (some ⟨g,0,none⟩) l.length cap)).run Tryz.prog wr=.ok (.string ⟨l.toArray⟩) wr :=
     run_convert_bytes_back (P:=Tryz.prog) wr 151 9 5 ⟨g,0,none⟩ cap l Tryz.underlying151 Tryz.underlying5 Tryz.underlying9 (fun q hq=>HO.o.cells rfl q _ (by simp[xU,A8,hq]))
    have hll:l.toArray.size=l.length:=rfl
    have hsz2:(⟨l.toArray⟩:ByteArray).size=l.length:=rfl
    generalize hln:l.length=ln at *
    cases zZ:decide (40<(ln:Int))
    ·have Vj:ln≤40:=by simp at zZ;omega
     go_wp2_with fail
     (try simp only[Exit.inBlock,Exit.then])
     refine aJ (jI rfl _ _ _) rfl ?_
     exact⟨⟨⟨l.toArray⟩,j+1,_,_,rfl,by omega,by rw[hsz2];exact Vj,fun _=>by omega⟩,HB.o⟩
    ·go_wp2_with fail
     (try simp only[Exit.inBlock,Exit.then])
     refine aJ (jI rfl _ _ _) rfl ?_
     exact⟨⟨⟨#[]⟩,0,_,_,rfl,by omega,by decide,by intro h;simp at h⟩,HB.o⟩
  ·go_wp2_with fail
   (try simp only[Exit.inBlock,Exit.then])
   refine aJ (jI rfl _ _ _) rfl ?_
   exact⟨⟨⟨#[]⟩,0,_,_,rfl,by omega,by decide,by intro h;simp at h⟩,HB.o⟩
theorem lu {fn:Func} {p q r u:Tmp} (h:fn.results=#[.cell p 86,.tmp q,.tmp r,.tmp u]) {tmps:Array Value} {w:World} {g:Nat} {x0 x1 x2 x3 x4 a b c:Value} {t:TypeId}
 (hp:tmps.getD p undef=.pointer (some ⟨g,0,none⟩))(hq:tmps.getD q undef=a)(hr:tmps.getD r undef=b)(hu:tmps.getD u undef=c)(hg:w.heap[g]?=some (.cells #[x0,x1,x2,x3,x4] t (0,0))):(results fn tmps).run Tryz.prog w=.ok (.tuple #[.agg #[x0,x1,x2,x3,x4],a,b,c]) w:=by
 have hp':tmps[p]?.getD undef=.pointer (some ⟨g,0,none⟩):=by simpa using hp
 have hq':tmps[q]?.getD undef=a:=by simpa using hq
 have hr':tmps[r]?.getD undef=b:=by simpa using hr
 have hu':tmps[u]?.getD undef=c:=by simpa using hu
 have hl:=run_loadVar_row (P:=Tryz.prog) w g t 86 #[x0,x1,x2,x3,x4] (0,0) _ hg Tryz.underlying86 rfl (by show _=some 5;kernel_rfl)
 simp[results,h,hp',hq',hr',hu',asAddr,hl]
def Vk (s:ByteArray)(p:Nat)(k n a why:Int)(x:ByteArray)(i:Nat):Prop:=∀ hp:p<s.size,qG s[p]=true→k=2∧n=0∧a=(p:Int)∧x=s.extract p i∧why=0∧p≤i∧(∀ q (hq:q<s.size),p≤q→q<i→qG s[q]=true)∧(∀ hi:i<s.size,qG s[i]=false)
def X9 (s:ByteArray)(p:Nat)(e:Ending):Prop:=∃ (k n a:Int)(x:ByteArray)(i:Nat)(why at_:Int),e=.returned (.tuple #[.agg #[.int .i64 k,.string x,.int .i64 n,.slice none 0 0,.int .i64 a],.int .i64 (i:Int),.int .i64 why,.int .i64 at_])∧i≤s.size∧x.size≤600∧(k=4→x.size≤40)∧-9223372036854775808≤n∧n≤9223372036854775807∧(why=0→p<i)∧Vk s p k n a why x i
theorem Vl (s:ByteArray)(p:Nat)(hp:p<s.size)(hs:s.size≤600)(w:World):Calls Tryz.prog 80 #[.string s,.int .i64 (p:Int)] w fun e w'=>X9 s p e∧Below w.heap.size w w':=by
 obtain⟨w1,dZ⟩:∃ w1,w1=w.alloc (.cells #[.int .i64 0,.string ⟨#[]⟩,.int .i64 0,.slice none 0 0,.int .i64 0] 86):=⟨_,rfl⟩
 have hb1:Below w.heap.size w w1:=by rw[dZ];exact (aG _ _).alloc (aF _) _
 have hws:w1.heap.size=w.heap.size+1:=by rw[dZ];simp
 have hB:Hid (w1.heap[w.heap.size]?=some (.cells #[.int .i64 0,.string ⟨#[]⟩,.int .i64 0,.slice none 0 0,.int .i64 0] 86 (0,0))):=ae (by rw[dZ];exact aH w _)
 have HB1:=ae hb1
 have HW1:=ae dZ
 have hT:=ae (Oy s p hp hs w1)
 have hN:=ae (Jd s p hp hs w1)
 have hL:=ae (fun c=>zC c w1)
 clear dZ hb1
 cases uJ:((s[p].toNat:Int)==34)
 ·cases hlt:qG s[p]
  ·have hlp:=ae (hL.o s[p])
   rw[hlt] at hlp
   go_enter Tryz.func80,Tryz.ntmps80
   go_upto_region 1 with (fail)
   rw[←HW1.o]
   go_wp2_with fail
   refine (hlp.o).mono ?_
   rintro e w' ⟨rfl,rfl⟩
   go_wp2_with fail
   refine (hN.o).mono ?_
   rintro e w' ⟨⟨n,i,ok,rfl,hi,hok,hn1,hn2⟩,rfl⟩
   obtain⟨⟨k0,k1,k2,k3,k4⟩,f0,f1,f2,f3,f4⟩:=dN hB.o
   cases ok
   ·go_wp2_with fail
    refine aJ (lu rfl rfl rfl rfl rfl (dR hB.o)) rfl ?_
    exact⟨⟨_,_,_,_,0,_,_,rfl,by omega,by decide,by intro h;simp at h,by omega,by omega,by intro h;simp at h,fun _ hl=>by rw[hlt] at hl;cases hl⟩,dS HB1.o (aF _)⟩
   ·go_wp2_with fail
    refine aJ (lu rfl rfl rfl rfl rfl (dR hB.o)) rfl ?_
    exact⟨⟨_,_,_,_,i,_,_,rfl,hi,by decide,by intro h;simp at h,hn1,hn2,fun _=>by simpa using hok,fun _ hl=>by rw[hlt] at hl;cases hl⟩,dS HB1.o (aF _)⟩
  ·have hlp:=ae (hL.o s[p])
   rw[hlt] at hlp
   have HLT:=ae hlt
   clear hlt
   go_enter Tryz.func80,Tryz.ntmps80
   go_upto_region 1 with (fail)
   rw[←HW1.o]
   go_wp2_with fail
   refine (hlp.o).mono ?_
   rintro e w' ⟨rfl,rfl⟩
   go_wp2_with fail
   go_loop [12] (fun i=>∃ k:Nat,p≤k∧k≤s.size∧i=.int .i64 k∧Hid (∀ q (hq:q<s.size),p≤q→q<k→qG s[q]=true)) (fun i=>s.size-(intOf i).toNat)
   case atStart=>exact⟨p,by omega,by omega,rfl,ae fun q hq h1 h2=>absurd h1 (by omega)⟩
   case round =>
    obtain⟨k,hk1,hk2,rfl,hall⟩:=hrel
    by_cases hks:k<s.size
    ·have hlk:=ae (hL.o s[k])
     cases hlt:qG s[k]
     ·rw[hlt] at hlk
      have hne:p<k:=by
       rcases Nat.lt_or_ge p k with h|h
       ·exact h
       ·obtain rfl:k=p:=by omega
        rw[HLT.o] at hlt
        cases hlt
      have HLK:=ae hlt
      clear hlt
      go_wp2_with fail
      refine (hlk.o).mono ?_
      rintro e w' ⟨rfl,rfl⟩
      obtain⟨⟨k0,k1,k2,k3,k4⟩,f0,f1,f2,f3,f4⟩:=dN hB.o
      go_wp2_with fail
      refine aJ (lu rfl rfl rfl rfl rfl (dR hB.o)) rfl ?_
      exact⟨⟨_,_,_,s.extract p k,k,_,_,rfl,by omega,by simp[ByteArray.size_extract];omega,by intro h;simp at h,by omega,by omega,fun _=>hne,fun _ _=>⟨rfl,rfl,rfl,rfl,rfl,hk1,hall.o,fun _=>HLK.o⟩⟩,dS HB1.o (aF _)⟩
     ·rw[hlt] at hlk
      have adZ:Hid (∀ q (hq:q<s.size),p≤q→q<k+1→qG s[q]=true):=ae (fun q hq h1 h2=>by
       rcases Nat.lt_or_ge q k with h|h
       ·exact hall.o q hq h1 h
       ·obtain rfl:q=k:=by omega
        exact hlt)
      go_wp2_with fail
      refine (hlk.o).mono ?_
      rintro e w' ⟨rfl,rfl⟩
      go_wp2_with fail
      go_round
      case rel=>exact⟨k+1,by omega,by omega,by go_num,adZ⟩
      case measure=>simp[intOf];omega
    ·obtain rfl:k=s.size:=by omega
     obtain⟨⟨k0,k1,k2,k3,k4⟩,f0,f1,f2,f3,f4⟩:=dN hB.o
     go_wp2_with fail
     refine aJ (lu rfl rfl rfl rfl rfl (dR hB.o)) rfl ?_
     exact⟨⟨_,_,_,s.extract p s.size,s.size,_,_,rfl,by omega,by simp[ByteArray.size_extract];omega,by intro h;simp at h,by omega,by omega,fun _=>hp,fun _ _=>⟨rfl,rfl,rfl,rfl,rfl,hk1,hall.o,fun h=>absurd h (Nat.lt_irrefl _)⟩⟩,dS HB1.o (aF _)⟩
 ·go_enter Tryz.func80,Tryz.ntmps80
  go_upto_region 1 with (fail)
  rw[←HW1.o]
  go_wp2_with fail
  refine (hT.o).mono ?_
  rintro e w2 ⟨⟨x,i,why,at_,rfl,hi,hx,hw⟩,hb2⟩
  have hB2:Hid (w2.heap[w.heap.size]?=some (.cells #[.int .i64 0,.string ⟨#[]⟩,.int .i64 0,.slice none 0 0,.int .i64 0] 86 (0,0))):=ae ((hb2.block _ (by omega)).trans hB.o)
  have HB2:=ae hb2
  clear hb2
  obtain⟨⟨k0,k1,k2,k3,k4⟩,f0,f1,f2,f3,f4⟩:=dN hB2.o
  go_wp2_with fail
  refine aJ (lu rfl rfl rfl rfl rfl (dR hB2.o)) rfl ?_
  exact⟨⟨_,_,_,x,i,why,at_,rfl,hi,by omega,fun _=>hx,by omega,by omega,hw,fun _ hl=>by
   have Ya:((s[p].toNat:Int))=34:=by simpa using uJ
   unfold qG at hl
   rw[Ya] at hl
   exact absurd hl (by decide)⟩,dS (HB1.o.trans (HB2.o.mono (by omega))) (aF _)⟩
theorem mQ.gy {w:World} {S:Nat→Prop} {A:Option Addr} {l:List T} (h:mQ w S A l) {i:Nat} {e:T} (he:l[i]?=some e) :
 ∃ b o A' c',A=some ⟨b,o,none⟩∧S b∧w.cell? ⟨b,o+i*5,none⟩=some (.int .i64 e.k)∧w.cell? ⟨b,o+i*5+1,none⟩=some (.string e.s) ∧
   w.cell? ⟨b,o+i*5+2,none⟩=some (.int .i64 e.n)∧w.cell? ⟨b,o+i*5+3,none⟩=some (.slice A' e.kids.length c')∧w.cell? ⟨b,o+i*5+4,none⟩=some (.int .i64 e.at_)∧e.kids.length≤c'∧mQ w S A' e.kids:=by
 cases h with
 | nil A=>simp at he
 | mk b off l hn hlt A c h hk =>
   obtain⟨h1,h2,h3,h4,h5,h6⟩:=h i e he
   exact⟨b,off,A i,c i,rfl,hlt,h1,h2,h3,h4,h5,h6,hk i e he⟩
theorem mG {w:World} {base:Nat} {e:TypeId} {g cap m:Nat} {ps:List TP} (h:w.ownsRow base e 5 (.slice (some ⟨g,0,none⟩) m cap) m (ed ps))(hm:ps.length=m) {i:Nat} {p:TP} (hi:ps[i]?=some p) :
 w.cell? ⟨g,i*5,none⟩=some (.int .i64 p.1.k)∧w.cell? ⟨g,i*5+1,none⟩=some (.string p.1.s)∧w.cell? ⟨g,i*5+2,none⟩=some (.int .i64 p.1.n)∧w.cell? ⟨g,i*5+3,none⟩=some (.slice p.2.1 p.1.kids.length p.2.2)∧w.cell? ⟨g,i*5+4,none⟩=some (.int .i64 p.1.at_) ∧
  w.frozen? ⟨g,i*5+3,none⟩=false:=by
 have hlt:i<m:=by rw[←hm];exact (aV.1 hi).1
 obtain⟨g1,g2,g3,g4,g5⟩:=pM ps i p hi
 refine⟨by rw[h.cellAt _ (by omega),g1],by rw[h.cellAt _ (by omega),g2],by rw[h.cellAt _ (by omega),g3],by rw[h.cellAt _ (by omega),g4],by rw[h.cellAt _ (by omega),g5],?_⟩
 rcases h.2 with⟨h',_⟩|⟨g',cap',cur,h',_,hg,_⟩
 ·simp at h'
 ·simp only[Value.slice.injEq,Option.some.injEq,Addr.mk.injEq,and_true,true_and] at h'
  obtain⟨rfl,rfl⟩:=h'
  exact JI.frozen hg _
theorem pV (w0:World)(e:TypeId) {base:Nat} (h:base≤w0.heap.size):(w0.alloc (.cells #[] e)).ownsRow base e 5 (.slice (some ⟨w0.heap.size,0,none⟩) 0 0) 0 [] :=
 ⟨rfl,.inr ⟨w0.heap.size,0,#[],rfl,h,aH w0 _,aF _,by decide,rfl,rfl⟩⟩
theorem zD (w0:World)(e:TypeId) {base q:Nat} (h:base≤w0.heap.size)(hq:w0.heap.size=q):(w0.alloc (.cells #[] e)).drew.ownsRow base e 5 (.slice (some ⟨q,0,none⟩) 0 0) 0 []:=by
 subst hq
 exact pV w0 e h
theorem alloc_at (w0:World)(o:Obj) {q:Nat} (hq:w0.heap.size=q):(w0.alloc o).drew.heap[q]?=some o:=by
 subst hq
 exact aH w0 o
theorem iQ {fn:Func} {p q r:Tmp} (h:fn.results=#[.cell p 86,.tmp q,.tmp r]) {tmps:Array Value} {w:World} {g:Nat} {x0 x1 x2 x3 x4 a b:Value} {t:TypeId}
 (hp:tmps.getD p undef=.pointer (some ⟨g,0,none⟩))(hq:tmps.getD q undef=a)(hr:tmps.getD r undef=b)(hg:w.heap[g]?=some (.cells #[x0,x1,x2,x3,x4] t (0,0))):(results fn tmps).run Tryz.prog w=.ok (.tuple #[.agg #[x0,x1,x2,x3,x4],a,b]) w:=by
 have hp':tmps[p]?.getD undef=.pointer (some ⟨g,0,none⟩):=by simpa using hp
 have hq':tmps[q]?.getD undef=a:=by simpa using hq
 have hr':tmps[r]?.getD undef=b:=by simpa using hr
 have hl:=run_loadVar_row (P:=Tryz.prog) w g t 86 #[x0,x1,x2,x3,x4] (0,0) _ hg Tryz.underlying86 rfl (by show _=some 5;kernel_rfl)
 simp[results,h,hp',hq',hr',asAddr,hl]
theorem Oz:(Tryz.prog.info? 86).map (fun i=>(i.zero,i.size,i.bytes))=some (some (.agg #[.int .i64 0,.string ByteArray.empty,.int .i64 0,.slice none 0 0,.int .i64 0]),5,64):=by kernel_rfl
inductive T.Deep:Nat→T→Prop
 | mk (d:Nat)(k:Int)(s:ByteArray)(n:Int)(l:List T)(a:Int)(h:∀ e∈l,T.Deep d e):T.Deep (d+1) (.mk k s n l a)
theorem T.Deep.mono {d d':Nat} {t:T} (h:t.Deep d)(hd:d≤d'):t.Deep d':=by
 induction h generalizing d' with
 | mk d k s n l a h ih =>
   obtain⟨d2,rfl⟩:∃ d2,d'=d2+1:=⟨d'-1,by omega⟩
   exact .mk d2 k s n l a fun e he=>ih e he (by omega)
theorem T.Deep.leaf {d:Nat} (hd:0<d)(k:Int)(s:ByteArray)(n a:Int):T.Deep d (.mk k s n [] a):=by
 obtain⟨d2,rfl⟩:∃ d2,d=d2+1:=⟨d-1,by omega⟩
 exact .mk d2 k s n [] a fun e he=>by cases he
def mM (ps:List TP):Prop:=∀ (q:Nat)(p:TP),ps[q]?=some p→∀ e∈p.1.kids,T.Deep (13-q) e
theorem mM.one:mM [(lK,none,0)]:=fun q p hp e he=>by
 match q,hp with
 | 0,hp =>
   obtain rfl:(lK,none,0)=p:=by simpa using hp
   cases he
theorem mM.push {ps:List TP} (h:mM ps)(j:Int):mM (ps++[((.mk 1 ⟨#[]⟩ 0 [] j:T),none,0)]):=fun q p hp e he=>by
 rcases Nat.lt_or_ge q ps.length with hq|hq
 ·rw[List.getElem?_append_left hq] at hp
  exact h q p hp e he
 ·rw[bK hq] at hp
  have:=aN hp
  obtain rfl:p=((.mk 1 ⟨#[]⟩ 0 [] j:T),none,0):=by simpa using this
  cases he
theorem mM.kid {ps:List TP} (h:mM ps) {m1:Nat} {tk tn ta:Int} {ts:ByteArray} {tl:List T} {A0 A1:Option Addr} {c0 c1:Nat} (hp:ps[m1]?=some ((.mk tk ts tn tl ta:T),A0,c0)) {x:T} (hx:x.Deep (13-m1)) :
 mM (ps.set m1 ((.mk tk ts tn (tl++[x]) ta:T),A1,c1)):=fun q p hq e he=>by
 by_cases e1:m1=q
 ·subst e1
  have hlt:m1<ps.length:=(aV.1 hp).1
  rw[List.getElem?_set_self hlt] at hq
  obtain rfl:=aY hq
  rcases cu.1 (show e∈tl++[x] from he) with he|he
  ·exact h m1 _ hp e he
  ·obtain rfl:e=x:=by simpa using he
   exact hx
 ·rw[List.getElem?_set_ne e1] at hq
  exact h q p hq e he
theorem mM.take {ps:List TP} (h:mM ps)(n:Nat):mM (ps.take n):=fun q p hq e he=>by
 rcases Nat.lt_or_ge q n with h'|h'
 ·rw[List.getElem?_take_of_lt h'] at hq
  exact h q p hq e he
 ·rw[List.getElem?_take_eq_none h'] at hq;cases hq
theorem mM.top {ps:List TP} (h:mM ps) {m:Nat} {k n a:Int} {s:ByteArray} {l:List T} {A:Option Addr} {c:Nat} (hp:ps[m]?=some ((.mk k s n l a:T),A,c)):T.Deep (13-m+1) (.mk k s n l a) :=
 .mk _ k s n l a fun e he=>h m _ hp e he
def zM (st:List T):Bool:=decide (st.length=1)&&decide (0<(st.getD 0 lK).kids.length)
def Ws (st:List T)(i:Nat)(x:T):List T:=match st[i]? with
 | some (.mk k s n l a)=>st.set i (.mk k s n (l++[x]) a)
 | none=>st
def MF (s:ByteArray):Nat→Nat→Nat
 | 0,k=>k
 | f+1,k=>if h:k<s.size then (if qG s[k]=true then MF s f (k+1) else k) else k
def pK (s:ByteArray):Nat→Nat→List T→Option (Option T)
 | 0,_,_=>none
 | f+1,j,st =>
   if h:j<s.size then
    if ((s[j].toNat:Int)==32)=true then pK s f (j+1) st
    else if ((s[j].toNat:Int)==10)=true then pK s f (j+1) st
    else if ((s[j].toNat:Int)==41)=true then (if st.length≤1 then some none else pK s f (j+1) ((Ws st (st.length-2) (st.getD (st.length-1) lK)).take (st.length-1)))
    else if zM st=true then some none
    else if ((s[j].toNat:Int)==40)=true then (if 13≤st.length then some none else pK s f (j+1) (st++[.mk 1 ⟨#[]⟩ 0 [] (j:Int)]))
    else if qG s[j]=true then pK s f (MF s 600 j) (Ws st (st.length-1) (.mk 2 (s.extract j (MF s 600 j)) 0 [] (j:Int)))
    else none
   else if st.length=1 then some (st.getD 0 lK).kids[0]? else some none
def YR (s:ByteArray):Option (Option T):=if s.size≤600 then pK s 700 0 [lK] else none
def rJ (s:ByteArray)(j:Nat)(ps:List TP):Prop:=∀ r,YR s=some (some r)→∃ f,pK s f j (ps.map Prod.fst)=some (some r)
def TB (s:ByteArray):Prop:=∀ r,YR s≠some (some r)
section
variable {s:ByteArray} {j j':Nat} {ps ps':List TP}
theorem rJ.start (hs:s.size≤600):rJ s 0 [(lK,none,0)]:=fun r h=>⟨700,by rw[YR,if_pos hs] at h;exact h⟩
theorem rJ.go (h:rJ s j ps)(he:∀ f,pK s (f+1) j (ps.map Prod.fst)=pK s f j' (ps'.map Prod.fst)):rJ s j' ps':=fun r hr=>by
 obtain⟨f,hf⟩:=h r hr
 cases f with
 | zero=>rw[pK] at hf;cases hf
 | succ f=>exact⟨f,by rw[←he];exact hf⟩
theorem rJ.no (h:rJ s j ps)(he:∀ f r,pK s (f+1) j (ps.map Prod.fst)≠some (some r)):TB s:=fun r hr=>by
 obtain⟨f,hf⟩:=h r hr
 cases f with
 | zero=>rw[pK] at hf;cases hf
 | succ f=>exact he f r hf
theorem rJ.vac (h:TB s):rJ s j ps:=fun r hr=>absurd hr (h r)
theorem rJ.aiO (h:rJ s j ps)(hlt:j<s.size)(h1:((s[j].toNat:Int)==32)=true):rJ s (j+1) ps:=h.go fun f=>by rw[pK,dif_pos hlt,if_pos h1]
theorem rJ.aiP (h:rJ s j ps)(hlt:j<s.size)(h1:((s[j].toNat:Int)==32)=false)(h2:((s[j].toNat:Int)==10)=true):rJ s (j+1) ps:=h.go fun f=>by
 rw[pK,dif_pos hlt,if_neg (by rw[h1];decide),if_pos h2]
theorem MG {i:Nat} {tk tn ta:Int} {ts:ByteArray} {tl:List T} {A0 A1:Option Addr} {c0 c1:Nat} {x:T} (hp:ps[i]?=some ((.mk tk ts tn tl ta:T),A0,c0)) :
 (ps.set i ((.mk tk ts tn (tl++[x]) ta:T),A1,c1)).map Prod.fst=Ws (ps.map Prod.fst) i x:=by
 unfold Ws
 rw[bP,hp,List.map_set]
 rfl
theorem getD_map {i:Nat} {p:TP} (hp:ps[i]?=some p):(ps.map Prod.fst).getD i lK=p.1:=by
 rw[List.getD_eq_getElem?_getD,bP,hp]
 rfl
structure NC (s:ByteArray)(j:Nat)(hlt:j<s.size):Prop where
 a:((s[j].toNat:Int)==32)=false
 b:((s[j].toNat:Int)==10)=false
 c:((s[j].toNat:Int)==41)=false
theorem zN {hlt:j<s.size} (h:NC s j hlt)(f:Nat)(st:List T):pK s (f+1) j st=if zM st=true then some none
 else if ((s[j].toNat:Int)==40)=true then (if 13≤st.length then some none else pK s f (j+1) (st++[.mk 1 ⟨#[]⟩ 0 [] (j:Int)]))
 else if qG s[j]=true then pK s f (MF s 600 j) (Ws st (st.length-1) (.mk 2 (s.extract j (MF s 600 j)) 0 [] (j:Int)))
 else none:=by
 rw[pK,dif_pos hlt,if_neg (by rw[h.a];decide),if_neg (by rw[h.b];decide),if_neg (by rw[h.c];decide)]
theorem rJ.close {m m1 mt:Nat} {tk tn ta:Int} {ts:ByteArray} {tl:List T} {A0 A1:Option Addr} {c0 c1:Nat} {x:TP} (h:rJ s j ps)(hlt:j<s.size)(h1:((s[j].toNat:Int)==32)=false)(h2:((s[j].toNat:Int)==10)=false)(h3:((s[j].toNat:Int)==41)=true)
 (hl:ps.length=m)(hm:m=m1+2∧mt=m1+1)(hp:ps[m1]?=some ((.mk tk ts tn tl ta:T),A0,c0))(hx:ps[mt]?=some x):rJ s (j+1) ((ps.set m1 ((.mk tk ts tn (tl++[x.1]) ta:T),A1,c1)).take mt):=h.go fun f=>by
 obtain⟨rfl,rfl⟩:=hm
 rw[pK,dif_pos hlt,if_neg (by rw[h1];decide),if_neg (by rw[h2];decide),if_pos h3,bM,hl,if_neg (by omega),List.map_take,MG hp,show m1+2-1=m1+1 from rfl,show m1+2-2=m1 from rfl,getD_map hx]
theorem rJ.Wu {m:Nat} (h:rJ s j ps)(hlt:j<s.size)(h1:((s[j].toNat:Int)==32)=false)(h2:((s[j].toNat:Int)==10)=false)(h3:((s[j].toNat:Int)==41)=true)(hl:ps.length=m)(hm:m≤1):TB s:=h.no fun f r=>by
 rw[pK,dif_pos hlt,if_neg (by rw[h1];decide),if_neg (by rw[h2];decide),if_pos h3,bM,hl,if_pos hm]
 intro h;cases h
theorem rJ.open {hlt:j<s.size} (h:rJ s j ps)(hn:NC s j hlt)(ht:false=zM (ps.map Prod.fst))(h4:((s[j].toNat:Int)==40)=true)(hl:ps.length≤12) {A:Option Addr} {c:Nat}:rJ s (j+1) (ps++[((.mk 1 ⟨#[]⟩ 0 [] (j:Int):T),A,c)]):=h.go fun f=>by
 rw[zN hn,if_neg (by rw[←ht];decide),if_pos h4,bM,if_neg (by omega),List.map_append]
 rfl
theorem rJ.YS {hlt:j<s.size} (h:rJ s j ps)(hn:NC s j hlt)(h4:((s[j].toNat:Int)==40)=true)(hl:13≤ps.length):TB s:=h.no fun f r=>by
 rw[zN hn]
 split
 ·intro h;cases h
 ·first
   | rw[if_pos h4,bM,if_pos hl]
   | rw[bM,if_pos hl]
  intro h;cases h
theorem rJ.YT {hlt:j<s.size} (h:rJ s j ps)(hn:NC s j hlt)(ht:true=zM (ps.map Prod.fst)):TB s:=h.no fun f r=>by
 rw[zN hn,if_pos ht.symm]
 intro h;cases h
theorem rJ.PH {hlt:j<s.size} (h:rJ s j ps)(hn:NC s j hlt)(h4:((s[j].toNat:Int)==40)=false)(hl:qG s[j]=false):TB s:=h.no fun f r=>by
 rw[zN hn]
 split
 ·intro h;cases h
 ·rw[if_neg (by rw[h4];decide),if_neg (by rw[hl];decide)]
  intro h;cases h
theorem QH {i:Nat}:∀ (f k:Nat),k≤i→i≤s.size→i≤k+f→(∀ q (hq:q<s.size),k≤q→q<i→qG s[q]=true)→(∀ hi:i<s.size,qG s[i]=false)→MF s f k=i
 | 0,k,h1,h2,h3,_,_=>by rw[MF];omega
 | f+1,k,h1,h2,h3,h4,h5=>by
   rw[MF]
   rcases Nat.lt_or_ge k i with h|h
   ·have hk:k<s.size:=by omega
    rw[dif_pos hk,if_pos (h4 k hk (aF _) h)]
    exact QH f (k+1) h h2 (by omega) (fun q hq a b=>h4 q hq (by omega) b) h5
   ·obtain rfl:k=i:=by omega
    split
    ·next hk=>rw[if_neg (by rw[h5 hk];decide)]
    ·rfl
theorem rJ.leaf {hlt:j<s.size} {m1 i:Nat} {tk tn ta k n a why:Int} {ts x:ByteArray} {tl:List T} {A0 A1:Option Addr} {c0 c1:Nat} (h:rJ s j ps)(hn:NC s j hlt)(hs:s.size≤600)(ht:false=zM (ps.map Prod.fst))(h4:((s[j].toNat:Int)==40)=false)
 (hl:ps.length=m1+1)(hp:ps[m1]?=some ((.mk tk ts tn tl ta:T),A0,c0))(hw:Vk s j k n a why x i)(hi:i≤s.size):rJ s i (ps.set m1 ((.mk tk ts tn (tl++[(.mk k x n [] a:T)]) ta:T),A1,c1)):=by
 cases hb:qG s[j]
 ·exact .vac (h.PH hn h4 hb)
 ·obtain⟨rfl,rfl,rfl,rfl,rfl,h5,h6,h7⟩:=hw hlt hb
  refine h.go fun f=>?_
  rw[zN hn,if_neg (by rw[←ht];decide),if_neg (by rw[h4];decide),if_pos hb,MG hp,bM,hl,QH 600 j h5 hi (by omega) h6 h7]
  rfl
theorem rJ.YU {hlt:j<s.size} {i:Nat} {k n a why:Int} {x:ByteArray} (h:rJ s j ps)(hn:NC s j hlt)(h4:((s[j].toNat:Int)==40)=false)(hw:Vk s j k n a why x i)(hy:why≠0):TB s:=by
 cases hb:qG s[j]
 ·exact h.PH hn h4 hb
 ·exact absurd (hw hlt hb).2.2.2.2.1 hy
theorem rJ.end_ {tk tn ta:Int} {ts:ByteArray} {tl:List T} {A0:Option Addr} {c0:Nat} {x:T} (h:rJ s j ps)(hlt:¬j<s.size)(hl:ps.length=1)(hp:ps[0]?=some ((.mk tk ts tn (x::tl) ta:T),A0,c0))(r:T)(hr:YR s=some (some r)):x=r:=by
 obtain⟨f,hf⟩:=h r hr
 cases f with
 | zero=>rw[pK] at hf;cases hf
 | succ f =>
   rw[pK,dif_neg hlt,bM,if_pos hl,getD_map hp] at hf
   exact aY (aY hf)
theorem rJ.YV {tk tn ta:Int} {ts:ByteArray} {A0:Option Addr} {c0:Nat} (h:rJ s j ps)(hlt:¬j<s.size)(hl:ps.length=1)(hp:ps[0]?=some ((.mk tk ts tn [] ta:T),A0,c0)):TB s:=h.no fun f r=>by
 rw[pK,dif_neg hlt,bM,if_pos hl,getD_map hp]
 intro h;cases h
theorem rJ.YW (h:rJ s j ps)(hlt:¬j<s.size)(hl:¬ps.length=1):TB s:=h.no fun f r=>by
 rw[pK,dif_neg hlt,bM,if_neg hl]
 intro h;cases h
end
theorem TB.long {s:ByteArray} (h:¬s.size≤600):TB s:=fun r=>by
 rw[YR,if_neg h]
 intro h;cases h
theorem Wv {ps:List TP} {m:Nat} {p:TP} (hl:ps.length=m)(hp:ps[0]?=some p):zM (ps.map Prod.fst)=(decide (m=1)&&decide (0<p.1.kids.length)):=by
 rw[zM,bM,hl,getD_map hp]
def MH (s:ByteArray)(w:World)(e:Ending)(w':World):Prop:=∃ (t:T)(A:Option Addr)(c:Nat)(why at_:Int),e=.returned (.tuple #[t.val A c,.int .i64 why,.int .i64 at_])∧(t.Good∧t.Deep 13)∧t.kids.length≤c∧mQ w' (fun k=>w.heap.size≤k∧k<w'.heap.size) A t.kids∧(∀ r,YR s=some (some r)→why=0∧t=r)
theorem jE {s:ByteArray} (hno:TB s)(w w':World)(why at_:Int):MH s w (.returned (.tuple #[.agg #[.int .i64 0,.string ⟨#[]⟩,.int .i64 0,.slice none 0 0,.int .i64 0],.int .i64 why,.int .i64 at_])) w' :=
 ⟨lK,none,0,why,at_,rfl,⟨(Eo 0).good (by decide),.leaf (by decide) _ _ _ _⟩,aF _,.nil _,fun r hr=>absurd hr (hno r)⟩
theorem kR {ops:Array Oper} {a:Act} {w:World} {K:Act→World→Prop} {Q:Exit→Act→World→Prop} {E:Prop} (o:Oper)(hg:o.guard=none)(x:Tmp)(ho:o.op=.buildSlice 84 1 #[(0,.tmp x)])
 (k n l:Int)(s:ByteArray)(A:Option Addr)(m c:Nat)(hv:a.eval (.tmp x)=.agg #[.int .i64 k,.string s,.int .i64 n,.slice A m c,.int .i64 l])
 (h:K (a.put o.dst (.slice (some ⟨w.heap.size,0,none⟩) 1 1)) (w.alloc (.cells #[.int .i64 k,.string s,.int .i64 n,.slice A m c,.int .i64 l] 86))) :
 if Region.wanted o (yielded ops a.tmps)=true then Oper.wp Tryz.prog o a w K Q else E:=by
 have hw:Region.wanted o (yielded ops a.tmps)=true:=by simp[Region.wanted,hg]
 rw[if_pos hw]
 have hv':a.tmps[x]?.getD undef=.agg #[.int .i64 k,.string s,.int .i64 n,.slice A m c,.int .i64 l]:=by simpa [Act.eval] using hv
 clear hv hw
 obtain⟨d,op,ty,p,af,gd⟩:=o
 simp only at ho hg h
 subst ho hg
 go_simp
 exact h
theorem qZ {ops:Array Oper} {a:Act} {w:World} {K:Act→World→Prop} {Q:Exit→Act→World→Prop} {E:Prop} (o:Oper)(hg:o.guard=none)(ho:o.op=.buildSlice 84 0 #[])
 (h:K (a.put o.dst (.slice (some ⟨w.heap.size,0,none⟩) 0 0)) (w.alloc (.cells #[] 86))) :
 if Region.wanted o (yielded ops a.tmps)=true then Oper.wp Tryz.prog o a w K Q else E:=by
 have hw:Region.wanted o (yielded ops a.tmps)=true:=by simp[Region.wanted,hg]
 rw[if_pos hw]
 clear hw
 obtain⟨d,op,ty,p,af,gd⟩:=o
 simp only at ho hg h
 subst ho hg
 go_simp
 exact h
theorem wO (s:ByteArray)(w:World):Calls Tryz.prog 127 #[.string s] w fun e w'=>e=.returned (.int .i64 (gX s.toList:Nat))∧w=w':=by
 rcases JU s.toList with h|h
 ·simp only[opsL,Bz,BA,BB,Ae,Af,BC,JS,uq,BD,BF,uu,Ci,bZ,bI,or_false] at h
  rcases h with h|h|h|h|h|h|h|h|h|h|h|h
  all_goals
   obtain⟨q,hq⟩:∃ q,q=gX s.toList:=⟨_,rfl⟩
   rw[←hq]
   rw[h] at hq
   change q=_ at hq
   simp only[gX,Bz,BA,BB,Ae,Af,BC,JS,uq,BD,BF,uu,Ci] at hq
   simp at hq
   subst hq
   go_enter Tryz.func127,Tryz.ntmps127
   go_wp2
   go_ret
   exact⟨rfl,rfl⟩
 ·have hq:gX s.toList=0:=by
   have hne:∀ x∈opsL,s.toList≠x:=fun x hx e=>by have:=h x hx;rw[e] at this;simp at this
   simp only[opsL,bZ,bI,or_false,forall_eq_or_imp,forall_eq] at hne
   obtain⟨h0,h1,h2,h3,h4,h5,h6,h7,h8,h9,h10,h11⟩:=hne
   simp[gX,h0,h1,h2,h3,h4,h5,h6,h7,h8,h9,h10,h11]
  rw[hq]
  clear hq
  simp only[opsL,Bz,BA,BB,Ae,Af,BC,JS,uq,BD,BF,uu,Ci,bZ,bI,or_false,forall_eq_or_imp,forall_eq] at h
  obtain⟨h0,h1,h2,h3,h4,h5,h6,h7,h8,h9,h10,h11⟩:=h
  go_enter Tryz.func127,Tryz.ntmps127
  go_wp2
  go_ret
  exact⟨rfl,rfl⟩
def zh (e:E):Prop:=e.Fine→∀ (A:Option Addr)(c:Nat)(w:World),iZ w w.heap.size A e.kids →
 Calls Tryz.prog 130 #[e.val A c] w fun r w'=>r=.returned (.bool (gI e))∧Below w.heap.size w w'
theorem Ru {l:List E} {k:Nat} {x:E} (hx:l[k]?=some x):lU (l.drop k)=(gI x&&lU (l.drop (k+1))):=by
 obtain⟨h1,e1⟩:=aV.1 hx
 rw[bY h1,e1,lU]
theorem KF (s:ByteArray)(n:Int)(l:List E)(hM0:∀ e∈l,zh e):zh (.mk 4 s n l):=by
 intro oZ A c w hA
 obtain⟨_,_,_,_,_,_,_,hfk⟩:=oZ
 have hM:=fun e he=>hM0 e he (hfk e he)
 clear hM0 hfk
 simp only[E.val,E.k,E.s,E.n,E.kids] at hA ⊢
 have hz:Hid (gI (.mk 4 s n l)=(decide (0<gX s.toList)&&(gX s.toList==l.length&&(n==0&&lU l)))):=ae (by
  rw[gI,if_neg (by decide),if_neg (by decide),if_neg (by decide),if_pos rfl])
 obtain⟨m,em⟩:∃ m,m=l.length:=⟨_,rfl⟩
 have Hm:=ae em
 rw[←em] at hz ⊢
 obtain⟨w1,dZ⟩:∃ w1,w1=(w.alloc (.cells #[.int .i64 4,.string s,.int .i64 n,.slice A m c] 38)):=⟨_,rfl⟩
 have hb1:Below w.heap.size w w1:=by rw[dZ];exact (aG _ _).alloc (aF _) _
 have HW1:=ae dZ
 have hws:w1.heap.size=w.heap.size+1:=by rw[dZ];simp
 have oQ:Hid (∀ w',Below w1.heap.size w1 w'→w'.cell? ⟨w.heap.size,0,none⟩=some (.int .i64 4)∧w'.cell? ⟨w.heap.size,1,none⟩=some (.string s)∧w'.cell? ⟨w.heap.size,2,none⟩=some (.int .i64 n)∧w'.cell? ⟨w.heap.size,3,none⟩=some (.slice A m c)):=ae (by
  have h0:w1.cell? ⟨w.heap.size,0,none⟩=some (.int .i64 4)∧w1.cell? ⟨w.heap.size,1,none⟩=some (.string s)∧w1.cell? ⟨w.heap.size,2,none⟩=some (.int .i64 n)∧w1.cell? ⟨w.heap.size,3,none⟩=some (.slice A m c):=by rw[dZ];simp
  intro w' hb
  have hlt:w.heap.size<w1.heap.size:=by omega
  exact⟨(hb.cell (p:=⟨w.heap.size,0,none⟩) hlt).trans h0.1,(hb.cell (p:=⟨w.heap.size,1,none⟩) hlt).trans h0.2.1,(hb.cell (p:=⟨w.heap.size,2,none⟩) hlt).trans h0.2.2.1,(hb.cell (p:=⟨w.heap.size,3,none⟩) hlt).trans h0.2.2.2⟩)
 have LW:Hid (∀ w',Below w1.heap.size w1 w'→Below w.heap.size w w'):=ae fun w' h=>hb1.trans (h.mono (by omega))
 have HK:=ae ((hA.low hb1).more hb1.size)
 have hlen:=hA.len
 rw[←em] at hlen
 have hTk:Hid (∀ w',Below w1.heap.size w1 w'→Calls Tryz.prog 127 #[.string s] w' fun e w''=>e=.returned (.int .i64 (gX s.toList:Nat))∧Below w1.heap.size w1 w''):=ae fun w' h=>(wO s w').mono fun e w'' ⟨h1,h2⟩=>⟨h1,h2 ▸ h⟩
 have HM:=ae hM
 have T0:Hid (Below w1.heap.size w1 w1.drew):=ae (aG _ _).drew
 generalize gI (.mk 4 s n l)=q at *
 generalize gX s.toList=cn at *
 clear hA hM dZ hb1 em
 by_cases hn:n=0
 ·subst hn
  by_cases hc:cn=0
  ·subst hc
   obtain rfl:q=false:=by rw[hz.o];rfl
   clear hz HM HK Hm
   go_enter Tryz.func130,Tryz.ntmps130
   go_wp2_with fail
   rw[←HW1.o]
   clear HW1
   refine wp_region_held_drew (S:=fun w'=>w'.cell? ⟨w.heap.size,0,none⟩=some (.int .i64 4)∧w'.cell? ⟨w.heap.size,1,none⟩=some (.string s)∧w'.cell? ⟨w.heap.size,2,none⟩=some (.int .i64 0)∧w'.cell? ⟨w.heap.size,3,none⟩=some (.slice A m c)) (by kernel_rfl) (oQ.o _ (Hid.o (by assumption))) (fun hHeld=>?_)
   refine aC (i:=0) (v:=.pointer (some ⟨w.heap.size,2,none⟩)) rfl (by kernel_rfl) aA (bD ⟨by rfl,fun _ x=>by dsimp only at x;go_simp⟩) ‹_› ?_
   simp only[ah,ai,Act.put,au,ay,az]
   refine aC (i:=1) (v:=.int .i64 0) rfl (by kernel_rfl) aA (bD ⟨by rfl,fun _ x=>by dsimp only at x;go_simp⟩) ‹_› ?_
   simp only[ah,aj,ai,Act.put,au,ay,az]
   refine aC (i:=2) (v:=.bool false) rfl (by kernel_rfl) aA (bD ⟨by rfl,fun _ x=>by dsimp only at x;go_simp⟩) ‹_› ?_
   simp only[ah,aj,ai,Act.put,au,ay,az]
   refine aC (i:=3) (v:=.bool false) rfl (by kernel_rfl) aA (bD ⟨by rfl,fun _ x=>by dsimp only at x;go_simp⟩) ‹_› ?_
   simp only[ah,aj,ai,Act.put,au,ay,az]
   refine aC (i:=4) (v:=.pointer (some ⟨w.heap.size,1,none⟩)) rfl (by kernel_rfl) aA (bD ⟨by rfl,fun _ x=>by dsimp only at x;go_simp⟩) ‹_› ?_
   simp only[ah,aj,ai,Act.put,au,ay,az]
   refine aC (i:=5) (v:=.string s) rfl (by kernel_rfl) aA (bD ⟨by rfl,fun _ x=>by dsimp only at x;go_simp⟩) ‹_› ?_
   simp only[ah,aj,ai,Act.put,au,ay,az]
   refine wpAnyH_ready (rs:=[6]) (by kernel_rfl) (by simp) ?_
   refine AllReadyH.cons rfl (fun K hK=>?_) AllReadyH.nil
   simp only[ah,aj,ai]
   go_simp
   refine (hTk.o _ (Hid.o (by assumption))).mono ?_
   rintro e w' ⟨rfl,bA⟩
   have U6:=ae bA
   clear bA  hHeld
   go_wp2_with fail
   refine hK.o _ _ (oQ.o _ (Hid.o (by assumption))) (fun hHeld=>?_)
   clear hK K
   refine aC (i:=7) (v:=.bool true) rfl (by kernel_rfl) aA (bD ⟨by rfl,fun _ x=>by dsimp only at x;go_simp⟩) ‹_› ?_
   simp only[ah,aj,ai,Act.put,au,ay,az]
   refine aC (i:=8) (v:=.bool true) rfl (by kernel_rfl) aA (bD ⟨by rfl,fun _ x=>by dsimp only at x;go_simp⟩) ‹_› ?_
   simp only[ah,aj,ai,Act.put,au,ay,az]
   refine aC (i:=9) (v:=.bool true) rfl (by kernel_rfl) aA (bD ⟨by rfl,fun _ x=>by dsimp only at x;go_simp⟩) ‹_› ?_
   simp only[ah,aj,ai,Act.put,au,ay,az]
   refine aC (i:=10) (v:=undef) rfl (by kernel_rfl) aA (Or.inr ⟨by kernel_rfl,rfl⟩) ‹_› ?_
   simp only[ah,aj,ai,Act.put,au,ay,az]
   refine aC (i:=11) (v:=undef) rfl (by kernel_rfl) aA (Or.inr ⟨by kernel_rfl,rfl⟩) ‹_› ?_
   simp only[ah,aj,ai,Act.put,au,ay,az]
   refine aC (i:=12) (v:=undef) rfl (by kernel_rfl) aA (Or.inr ⟨by kernel_rfl,rfl⟩) ‹_› ?_
   simp only[ah,aj,ai,Act.put,au,ay,az]
   refine aC (i:=13) (v:=undef) rfl (by kernel_rfl) aA (Or.inr ⟨by kernel_rfl,rfl⟩) ‹_› ?_
   simp only[ah,aj,ai,Act.put,au,ay,az]
   refine aC (i:=14) (v:=undef) rfl (by kernel_rfl) aA (Or.inr ⟨by kernel_rfl,rfl⟩) ‹_› ?_
   simp only[ah,aj,ai,Act.put,au,ay,az]
   refine aC (i:=15) (v:=undef) rfl (by kernel_rfl) aA (Or.inr ⟨by kernel_rfl,rfl⟩) ‹_› ?_
   simp only[ah,aj,ai,Act.put,au,ay,az]
   refine aC (i:=16) (v:=undef) rfl (by kernel_rfl) aA (Or.inr ⟨by kernel_rfl,rfl⟩) ‹_› ?_
   simp only[ah,aj,ai,Act.put,au,ay,az]
   refine aC (i:=17) (v:=.bool true) rfl (by kernel_rfl) aA (bD ⟨by rfl,fun _ x=>by dsimp only at x;go_simp⟩) ‹_› ?_
   simp only[ah,aj,ai,Act.put,au,ay,az]
   refine wpAnyH_done (by kernel_rfl) ?_ _
   go_wp2_with fail
   go_ret
   exact⟨rfl,LW.o _ (Hid.o (by assumption))⟩
  have hc':((cn:Int)==0)=false:=by simp;omega
  by_cases hm:m=cn
  ·subst hm
   have hz2:Hid (q=lU l):=ae (by rw[hz.o,decide_eq_true (by omega)];simp)
   clear hz
   go_enter Tryz.func130,Tryz.ntmps130
   go_wp2_with fail
   rw[←HW1.o]
   clear HW1
   refine wp_region_held_drew (S:=fun w'=>w'.cell? ⟨w.heap.size,0,none⟩=some (.int .i64 4)∧w'.cell? ⟨w.heap.size,1,none⟩=some (.string s)∧w'.cell? ⟨w.heap.size,2,none⟩=some (.int .i64 0)∧w'.cell? ⟨w.heap.size,3,none⟩=some (.slice A m c)) (by kernel_rfl) (oQ.o _ (Hid.o (by assumption))) (fun hHeld=>?_)
   refine aC (i:=0) (v:=.pointer (some ⟨w.heap.size,2,none⟩)) rfl (by kernel_rfl) aA (bD ⟨by rfl,fun _ x=>by dsimp only at x;go_simp⟩) ‹_› ?_
   simp only[ah,ai,Act.put,au,ay,az]
   refine aC (i:=1) (v:=.int .i64 0) rfl (by kernel_rfl) aA (bD ⟨by rfl,fun _ x=>by dsimp only at x;go_simp⟩) ‹_› ?_
   simp only[ah,aj,ai,Act.put,au,ay,az]
   refine aC (i:=2) (v:=.bool false) rfl (by kernel_rfl) aA (bD ⟨by rfl,fun _ x=>by dsimp only at x;go_simp⟩) ‹_› ?_
   simp only[ah,aj,ai,Act.put,au,ay,az]
   refine aC (i:=3) (v:=.bool false) rfl (by kernel_rfl) aA (bD ⟨by rfl,fun _ x=>by dsimp only at x;go_simp⟩) ‹_› ?_
   simp only[ah,aj,ai,Act.put,au,ay,az]
   refine aC (i:=4) (v:=.pointer (some ⟨w.heap.size,1,none⟩)) rfl (by kernel_rfl) aA (bD ⟨by rfl,fun _ x=>by dsimp only at x;go_simp⟩) ‹_› ?_
   simp only[ah,aj,ai,Act.put,au,ay,az]
   refine aC (i:=5) (v:=.string s) rfl (by kernel_rfl) aA (bD ⟨by rfl,fun _ x=>by dsimp only at x;go_simp⟩) ‹_› ?_
   simp only[ah,aj,ai,Act.put,au,ay,az]
   refine wpAnyH_ready (rs:=[6]) (by kernel_rfl) (by simp) ?_
   refine AllReadyH.cons rfl (fun K hK=>?_) AllReadyH.nil
   simp only[ah,aj,ai]
   go_simp
   refine (hTk.o _ (Hid.o (by assumption))).mono ?_
   rintro e w' ⟨rfl,bA⟩
   have U6:=ae bA
   clear bA  hHeld
   go_wp2_with fail
   refine hK.o _ _ (oQ.o _ (Hid.o (by assumption))) (fun hHeld=>?_)
   clear hK K
   refine aC (i:=7) (v:=.bool false) rfl (by kernel_rfl) aA (bD ⟨by rfl,fun _ x=>by dsimp only at x;go_simp⟩) ‹_› ?_
   simp only[ah,aj,ai,Act.put,au,ay,az]
   refine aC (i:=8) (v:=.bool false) rfl (by kernel_rfl) aA (bD ⟨by rfl,fun _ x=>by dsimp only at x;go_simp⟩) ‹_› ?_
   simp only[ah,aj,ai,Act.put,au,ay,az]
   refine aC (i:=9) (v:=.bool false) rfl (by kernel_rfl) aA (bD ⟨by rfl,fun _ x=>by dsimp only at x;go_simp⟩) ‹_› ?_
   simp only[ah,aj,ai,Act.put,au,ay,az]
   refine aC (i:=10) (v:=.pointer (some ⟨w.heap.size,3,none⟩)) rfl (by kernel_rfl) aA (bD ⟨by rfl,fun _ x=>by dsimp only at x;go_simp⟩) ‹_› ?_
   simp only[ah,aj,ai,Act.put,au,ay,az]
   refine aC (i:=11) (v:=.slice A m c) rfl (by kernel_rfl) aA (bD ⟨by rfl,fun _ x=>by dsimp only at x;go_simp⟩) ‹_› ?_
   simp only[ah,aj,ai,Act.put,au,ay,az]
   refine aC (i:=12) (v:=.int .i64 m) rfl (by kernel_rfl) aA (bD ⟨by rfl,fun _ x=>by dsimp only at x;go_simp⟩) ‹_› ?_
   simp only[ah,aj,ai,Act.put,au,ay,az]
   refine aC (i:=13) (v:=.pointer (some ⟨w.heap.size,1,none⟩)) rfl (by kernel_rfl) aA (bD ⟨by rfl,fun _ x=>by dsimp only at x;go_simp⟩) ‹_› ?_
   simp only[ah,aj,ai,Act.put,au,ay,az]
   refine aC (i:=14) (v:=.string s) rfl (by kernel_rfl) aA (bD ⟨by rfl,fun _ x=>by dsimp only at x;go_simp⟩) ‹_› ?_
   simp only[ah,aj,ai,Act.put,au,ay,az]
   refine wpAnyH_ready (rs:=[15]) (by kernel_rfl) (by simp) ?_
   refine AllReadyH.cons rfl (fun K hK=>?_) AllReadyH.nil
   simp only[ah,aj,ai]
   go_simp
   refine (hTk.o _ (Hid.o (by assumption))).mono ?_
   rintro e w' ⟨rfl,bA⟩
   have U15:=ae bA
   clear bA  hHeld
   go_wp2_with fail
   refine hK.o _ _ (oQ.o _ (Hid.o (by assumption))) (fun hHeld=>?_)
   clear hK K
   refine aC (i:=16) (v:=.bool false) rfl (by kernel_rfl) aA (bD ⟨by rfl,fun _ x=>by dsimp only at x;go_simp⟩) ‹_› ?_
   simp only[ah,aj,ai,Act.put,au,ay,az]
   refine aC (i:=17) (v:=.bool false) rfl (by kernel_rfl) aA (bD ⟨by rfl,fun _ x=>by dsimp only at x;go_simp⟩) ‹_› ?_
   simp only[ah,aj,ai,Act.put,au,ay,az]
   refine wpAnyH_done (by kernel_rfl) ?_ _
   go_wp2_with fail
   go_loopw [3] (fun i wr=>∃ k:Nat,k≤m∧i=.int .i64 k∧Below w1.heap.size w1 wr∧Hid (lU l=lU (l.drop k))) (fun i _=>m-(intOf i).toNat)
   case atStart=>exact⟨0,aX _,rfl,Hid.o (by assumption),ae rfl⟩
   case round =>
    obtain⟨k,hk,rfl,hb,hzl⟩:=hrel
    obtain⟨b0,b1,b2,b3⟩:=oQ.o wr hb
    have hs:=hb.size
    have HB:=ae hb
    by_cases hlt:k<m
    ·obtain⟨x,hx⟩:∃ x,l[k]?=some x:=⟨_,aO (by rw[←Hm.o];exact hlt)⟩
     have hst:=ae (hzl.o.trans (Ru hx))
     obtain⟨bb,o,A',c',rfl,hbl,d1,d2,d3,d4,hKx⟩:=HK.o.gy wr hb k x hx
     have Dv:=HM.o x (aN hx)
     clear hx hzl hb
     obtain⟨xk,xs,xn,xl⟩:=x
     simp only[E.k,E.s,E.n,E.kids] at d1 d2 d3 d4 hKx
     have hcl:=ae (Dv A' c' wr hKx)
     simp only[E.val,E.k,E.s,E.n,E.kids] at hcl
     clear Dv hKx
     generalize xl.length=xm at *
     cases hmx:gI (.mk xk xs xn xl)
     ·rw[hmx] at hcl hst
      have hq:Hid (q=false):=ae (by rw[hz2.o,hst.o,Bool.false_and])
      clear hst hmx
      go_wp2_with fail
      refine (hcl.o).mono ?_
      rintro e w3 ⟨rfl,hb3⟩
      have HB3:=ae (HB.o.trans (hb3.mono hs))
      clear hb3 hcl
      go_wp2_with fail
      go_ret
      exact⟨by rw[hq.o];rfl,LW.o _ HB3.o⟩
     ·rw[hmx] at hcl hst
      have hst2:Hid (lU l=lU (l.drop (k+1))):=ae (by rw[hst.o,Bool.true_and])
      clear hst hmx
      go_wp2_with fail
      refine (hcl.o).mono ?_
      rintro e w3 ⟨rfl,hb3⟩
      have HB3:=ae (HB.o.trans (hb3.mono hs))
      clear hb3 hcl
      go_wp2_with fail
      go_roundw
      case rel=>exact⟨k+1,by omega,by go_num,HB3.o,hst2⟩
      case measure=>simp[intOf];omega
    ·obtain rfl:k=m:=by omega
     have hq:Hid (q=true):=ae (by rw[hz2.o,hzl.o,bW (by rw[←Hm.o];exact aF _)];rfl)
     clear hzl hb
     go_wp2_with fail
     go_ret
     exact⟨by rw[hq.o];rfl,LW.o _ HB.o⟩
  ·have hm':((m:Int) != (cn:Int))=true:=by simp;omega
   obtain rfl:q=false:=by rw[hz.o,show (cn==m)=false by simpa using fun h=>hm h.symm];simp
   clear hz HM HK Hm
   go_enter Tryz.func130,Tryz.ntmps130
   go_wp2_with fail
   rw[←HW1.o]
   clear HW1
   refine wp_region_held_drew (S:=fun w'=>w'.cell? ⟨w.heap.size,0,none⟩=some (.int .i64 4)∧w'.cell? ⟨w.heap.size,1,none⟩=some (.string s)∧w'.cell? ⟨w.heap.size,2,none⟩=some (.int .i64 0)∧w'.cell? ⟨w.heap.size,3,none⟩=some (.slice A m c)) (by kernel_rfl) (oQ.o _ (Hid.o (by assumption))) (fun hHeld=>?_)
   refine aC (i:=0) (v:=.pointer (some ⟨w.heap.size,2,none⟩)) rfl (by kernel_rfl) aA (bD ⟨by rfl,fun _ x=>by dsimp only at x;go_simp⟩) ‹_› ?_
   simp only[ah,ai,Act.put,au,ay,az]
   refine aC (i:=1) (v:=.int .i64 0) rfl (by kernel_rfl) aA (bD ⟨by rfl,fun _ x=>by dsimp only at x;go_simp⟩) ‹_› ?_
   simp only[ah,aj,ai,Act.put,au,ay,az]
   refine aC (i:=2) (v:=.bool false) rfl (by kernel_rfl) aA (bD ⟨by rfl,fun _ x=>by dsimp only at x;go_simp⟩) ‹_› ?_
   simp only[ah,aj,ai,Act.put,au,ay,az]
   refine aC (i:=3) (v:=.bool false) rfl (by kernel_rfl) aA (bD ⟨by rfl,fun _ x=>by dsimp only at x;go_simp⟩) ‹_› ?_
   simp only[ah,aj,ai,Act.put,au,ay,az]
   refine aC (i:=4) (v:=.pointer (some ⟨w.heap.size,1,none⟩)) rfl (by kernel_rfl) aA (bD ⟨by rfl,fun _ x=>by dsimp only at x;go_simp⟩) ‹_› ?_
   simp only[ah,aj,ai,Act.put,au,ay,az]
   refine aC (i:=5) (v:=.string s) rfl (by kernel_rfl) aA (bD ⟨by rfl,fun _ x=>by dsimp only at x;go_simp⟩) ‹_› ?_
   simp only[ah,aj,ai,Act.put,au,ay,az]
   refine wpAnyH_ready (rs:=[6]) (by kernel_rfl) (by simp) ?_
   refine AllReadyH.cons rfl (fun K hK=>?_) AllReadyH.nil
   simp only[ah,aj,ai]
   go_simp
   refine (hTk.o _ (Hid.o (by assumption))).mono ?_
   rintro e w' ⟨rfl,bA⟩
   have U6:=ae bA
   clear bA  hHeld
   go_wp2_with fail
   refine hK.o _ _ (oQ.o _ (Hid.o (by assumption))) (fun hHeld=>?_)
   clear hK K
   refine aC (i:=7) (v:=.bool false) rfl (by kernel_rfl) aA (bD ⟨by rfl,fun _ x=>by dsimp only at x;go_simp⟩) ‹_› ?_
   simp only[ah,aj,ai,Act.put,au,ay,az]
   refine aC (i:=8) (v:=.bool false) rfl (by kernel_rfl) aA (bD ⟨by rfl,fun _ x=>by dsimp only at x;go_simp⟩) ‹_› ?_
   simp only[ah,aj,ai,Act.put,au,ay,az]
   refine aC (i:=9) (v:=.bool false) rfl (by kernel_rfl) aA (bD ⟨by rfl,fun _ x=>by dsimp only at x;go_simp⟩) ‹_› ?_
   simp only[ah,aj,ai,Act.put,au,ay,az]
   refine aC (i:=10) (v:=.pointer (some ⟨w.heap.size,3,none⟩)) rfl (by kernel_rfl) aA (bD ⟨by rfl,fun _ x=>by dsimp only at x;go_simp⟩) ‹_› ?_
   simp only[ah,aj,ai,Act.put,au,ay,az]
   refine aC (i:=11) (v:=.slice A m c) rfl (by kernel_rfl) aA (bD ⟨by rfl,fun _ x=>by dsimp only at x;go_simp⟩) ‹_› ?_
   simp only[ah,aj,ai,Act.put,au,ay,az]
   refine aC (i:=12) (v:=.int .i64 m) rfl (by kernel_rfl) aA (bD ⟨by rfl,fun _ x=>by dsimp only at x;go_simp⟩) ‹_› ?_
   simp only[ah,aj,ai,Act.put,au,ay,az]
   refine aC (i:=13) (v:=.pointer (some ⟨w.heap.size,1,none⟩)) rfl (by kernel_rfl) aA (bD ⟨by rfl,fun _ x=>by dsimp only at x;go_simp⟩) ‹_› ?_
   simp only[ah,aj,ai,Act.put,au,ay,az]
   refine aC (i:=14) (v:=.string s) rfl (by kernel_rfl) aA (bD ⟨by rfl,fun _ x=>by dsimp only at x;go_simp⟩) ‹_› ?_
   simp only[ah,aj,ai,Act.put,au,ay,az]
   refine wpAnyH_ready (rs:=[15]) (by kernel_rfl) (by simp) ?_
   refine AllReadyH.cons rfl (fun K hK=>?_) AllReadyH.nil
   simp only[ah,aj,ai]
   go_simp
   refine (hTk.o _ (Hid.o (by assumption))).mono ?_
   rintro e w' ⟨rfl,bA⟩
   have U15:=ae bA
   clear bA  hHeld
   go_wp2_with fail
   refine hK.o _ _ (oQ.o _ (Hid.o (by assumption))) (fun hHeld=>?_)
   clear hK K
   refine aC (i:=16) (v:=.bool true) rfl (by kernel_rfl) aA (bD ⟨by rfl,fun _ x=>by dsimp only at x;go_simp⟩) ‹_› ?_
   simp only[ah,aj,ai,Act.put,au,ay,az]
   refine aC (i:=17) (v:=.bool true) rfl (by kernel_rfl) aA (bD ⟨by rfl,fun _ x=>by dsimp only at x;go_simp⟩) ‹_› ?_
   simp only[ah,aj,ai,Act.put,au,ay,az]
   refine wpAnyH_done (by kernel_rfl) ?_ _
   go_wp2_with fail
   go_ret
   exact⟨rfl,LW.o _ (Hid.o (by assumption))⟩
 ·have hn':(n != 0)=true:=by simpa using hn
  have hn2:(n==0)=false:=by simpa using hn
  obtain rfl:q=false:=by rw[hz.o,hn2];simp
  clear hz HM HK Hm hn
  go_enter Tryz.func130,Tryz.ntmps130
  go_wp2_with fail
  rw[←HW1.o]
  clear HW1
  refine wp_region_held_drew (S:=fun w'=>w'.cell? ⟨w.heap.size,0,none⟩=some (.int .i64 4)∧w'.cell? ⟨w.heap.size,1,none⟩=some (.string s)∧w'.cell? ⟨w.heap.size,2,none⟩=some (.int .i64 n)∧w'.cell? ⟨w.heap.size,3,none⟩=some (.slice A m c)) (by kernel_rfl) (oQ.o _ (Hid.o (by assumption))) (fun hHeld=>?_)
  refine aC (i:=0) (v:=.pointer (some ⟨w.heap.size,2,none⟩)) rfl (by kernel_rfl) aA (bD ⟨by rfl,fun _ x=>by dsimp only at x;go_simp⟩) ‹_› ?_
  simp only[ah,ai,Act.put,au,ay,az]
  refine aC (i:=1) (v:=.int .i64 n) rfl (by kernel_rfl) aA (bD ⟨by rfl,fun _ x=>by dsimp only at x;go_simp⟩) ‹_› ?_
  simp only[ah,aj,ai,Act.put,au,ay,az]
  refine aC (i:=2) (v:=.bool true) rfl (by kernel_rfl) aA (bD ⟨by rfl,fun _ x=>by dsimp only at x;go_simp⟩) ‹_› ?_
  simp only[ah,aj,ai,Act.put,au,ay,az]
  refine aC (i:=3) (v:=.bool true) rfl (by kernel_rfl) aA (bD ⟨by rfl,fun _ x=>by dsimp only at x;go_simp⟩) ‹_› ?_
  simp only[ah,aj,ai,Act.put,au,ay,az]
  refine aC (i:=4) (v:=undef) rfl (by kernel_rfl) aA (Or.inr ⟨by kernel_rfl,rfl⟩) ‹_› ?_
  simp only[ah,aj,ai,Act.put,au,ay,az]
  refine aC (i:=5) (v:=undef) rfl (by kernel_rfl) aA (Or.inr ⟨by kernel_rfl,rfl⟩) ‹_› ?_
  simp only[ah,aj,ai,Act.put,au,ay,az]
  refine aC (i:=6) (v:=undef) rfl (by kernel_rfl) aA (Or.inr ⟨by kernel_rfl,rfl⟩) ‹_› ?_
  simp only[ah,aj,ai,Act.put,au,ay,az]
  refine aC (i:=7) (v:=undef) rfl (by kernel_rfl) aA (Or.inr ⟨by kernel_rfl,rfl⟩) ‹_› ?_
  simp only[ah,aj,ai,Act.put,au,ay,az]
  refine aC (i:=8) (v:=.bool true) rfl (by kernel_rfl) aA (bD ⟨by rfl,fun _ x=>by dsimp only at x;go_simp⟩) ‹_› ?_
  simp only[ah,aj,ai,Act.put,au,ay,az]
  refine aC (i:=9) (v:=.bool true) rfl (by kernel_rfl) aA (bD ⟨by rfl,fun _ x=>by dsimp only at x;go_simp⟩) ‹_› ?_
  simp only[ah,aj,ai,Act.put,au,ay,az]
  refine aC (i:=10) (v:=undef) rfl (by kernel_rfl) aA (Or.inr ⟨by kernel_rfl,rfl⟩) ‹_› ?_
  simp only[ah,aj,ai,Act.put,au,ay,az]
  refine aC (i:=11) (v:=undef) rfl (by kernel_rfl) aA (Or.inr ⟨by kernel_rfl,rfl⟩) ‹_› ?_
  simp only[ah,aj,ai,Act.put,au,ay,az]
  refine aC (i:=12) (v:=undef) rfl (by kernel_rfl) aA (Or.inr ⟨by kernel_rfl,rfl⟩) ‹_› ?_
  simp only[ah,aj,ai,Act.put,au,ay,az]
  refine aC (i:=13) (v:=undef) rfl (by kernel_rfl) aA (Or.inr ⟨by kernel_rfl,rfl⟩) ‹_› ?_
  simp only[ah,aj,ai,Act.put,au,ay,az]
  refine aC (i:=14) (v:=undef) rfl (by kernel_rfl) aA (Or.inr ⟨by kernel_rfl,rfl⟩) ‹_› ?_
  simp only[ah,aj,ai,Act.put,au,ay,az]
  refine aC (i:=15) (v:=undef) rfl (by kernel_rfl) aA (Or.inr ⟨by kernel_rfl,rfl⟩) ‹_› ?_
  simp only[ah,aj,ai,Act.put,au,ay,az]
  refine aC (i:=16) (v:=undef) rfl (by kernel_rfl) aA (Or.inr ⟨by kernel_rfl,rfl⟩) ‹_› ?_
  simp only[ah,aj,ai,Act.put,au,ay,az]
  refine aC (i:=17) (v:=.bool true) rfl (by kernel_rfl) aA (bD ⟨by rfl,fun _ x=>by dsimp only at x;go_simp⟩) ‹_› ?_
  simp only[ah,aj,ai,Act.put,au,ay,az]
  refine wpAnyH_done (by kernel_rfl) ?_ _
  go_wp2_with fail
  go_ret
  exact⟨rfl,LW.o _ (Hid.o (by assumption))⟩
theorem Oe (k:Int)(s:ByteArray)(n:Int)(l:List E)(h4:k≠4):zh (.mk k s n l):=by
 intro oZ A c w hA
 obtain⟨_,_,_,_,_,_,hfs,_⟩:=oZ
 simp only[E.val,E.k,E.s,E.n,E.kids] at hA ⊢
 have hb0:Below w.heap.size w (w.alloc (.cells #[.int .i64 k,.string s,.int .i64 n,.slice A l.length c] 38)):=(aG _ _).alloc (aF _) _
 have HB0:=ae hb0
 have hN:=ae (vF s (by omega))
 have hc:Hid True:=ae trivial
 have hC:Hid True:=ae trivial
 have hlen:=hA.len
 have hz:Hid (gI (.mk k s n l)=if k=1 then nameB s&&(n==0&&l.length==0) else if k=2 then s.toList.isEmpty&&l.length==0
  else if k=3 then n==0&&l.length==0 else if k=4 then decide (0<gX s.toList)&&(gX s.toList==l.length&&(n==0&&lU l)) else false):=ae (by rw[gI])
 generalize gI (.mk k s n l)=q at *
 generalize nameB s=qn at *
 generalize gX s.toList=cn at *
 generalize lU l=ql at *
 generalize l.length=m at *
 clear hA hb0 hfs
 by_cases h1:k=1
 ·subst h1
  have hz1:Hid (q=(qn&&(n==0&&m==0))):=ae (by rw[hz.o,if_pos rfl])
  clear hz hc hC
  cases qn
  ·obtain rfl:q=false:=by rw[hz1.o];rfl
   go_enter Tryz.func130,Tryz.ntmps130
   go_wp2_with fail
   refine (hN.o _).mono ?_
   rintro e w' ⟨rfl,hbn⟩
   have Ns:=ae (HB0.o.trans (hbn.mono (by simp)))
   have g2:=(hbn.cell (p:=⟨w.heap.size,2,none⟩) (by simp)).trans (by simp;rfl)
   have g3:=(hbn.cell (p:=⟨w.heap.size,3,none⟩) (by simp)).trans (by simp;rfl)
   clear hbn
   go_wp2_with fail
   go_ret
   exact⟨rfl,Ns.o⟩
  ·by_cases hn:n=0
   ·subst hn
    have hz2:Hid (q=((m:Int)==0)):=ae (by rw[hz1.o,rM];simp)
    clear hz1
    go_enter Tryz.func130,Tryz.ntmps130
    go_wp2_with fail
    refine (hN.o _).mono ?_
    rintro e w' ⟨rfl,hbn⟩
    have Ns:=ae (HB0.o.trans (hbn.mono (by simp)))
    have g2:=(hbn.cell (p:=⟨w.heap.size,2,none⟩) (by simp)).trans (by simp;rfl)
    have g3:=(hbn.cell (p:=⟨w.heap.size,3,none⟩) (by simp)).trans (by simp;rfl)
    clear hbn
    go_wp2_with fail
    go_ret
    exact⟨by rw[hz2.o];rfl,Ns.o⟩
   ·have hn':(n==0)=false:=by simpa using hn
    obtain rfl:q=false:=by rw[hz1.o,hn'];rfl
    clear hz1 hn
    go_enter Tryz.func130,Tryz.ntmps130
    go_wp2_with fail
    refine (hN.o _).mono ?_
    rintro e w' ⟨rfl,hbn⟩
    have Ns:=ae (HB0.o.trans (hbn.mono (by simp)))
    have g2:=(hbn.cell (p:=⟨w.heap.size,2,none⟩) (by simp)).trans (by simp;rfl)
    have g3:=(hbn.cell (p:=⟨w.heap.size,3,none⟩) (by simp)).trans (by simp;rfl)
    clear hbn
    go_wp2_with fail
    go_ret
    exact⟨rfl,Ns.o⟩
 have h1':(k==1)=false:=by simpa using h1
 by_cases h2:k=2
 ·subst h2
  have hz1:Hid (q=(s.toList.isEmpty&&m==0)):=ae (by rw[hz.o,if_neg (by decide),if_pos rfl])
  clear hz hc hC hN h1 h1'
  by_cases he:s.toList=[]
  ·have hz2:Hid (q=((m:Int)==0)):=ae (by rw[hz1.o,he,rM];simp)
   clear hz1
   go_enter Tryz.func130,Tryz.ntmps130
   go_wp2_with fail
   go_ret
   exact⟨by rw[hz2.o];rfl,HB0.o⟩
  ·have he':(s.toList==[])=false:=by simpa using he
   obtain rfl:q=false:=by rw[hz1.o];cases h:s.toList with
    | nil=>exact absurd h he
    | cons a l=>rfl
   clear hz1 he
   go_enter Tryz.func130,Tryz.ntmps130
   go_wp2_with fail
   go_ret
   exact⟨rfl,HB0.o⟩
 have h2':(k==2)=false:=by simpa using h2
 by_cases h3:k=3
 ·subst h3
  have hz1:Hid (q=(n==0&&m==0)):=ae (by rw[hz.o,if_neg (by decide),if_neg (by decide),if_pos rfl])
  clear hz hc hC hN h1 h1' h2 h2'
  by_cases hn:n=0
  ·subst hn
   have hz2:Hid (q=((m:Int)==0)):=ae (by rw[hz1.o,rM];simp)
   clear hz1
   go_enter Tryz.func130,Tryz.ntmps130
   go_wp2_with fail
   go_ret
   exact⟨by rw[hz2.o];rfl,HB0.o⟩
  ·have hn':(n==0)=false:=by simpa using hn
   obtain rfl:q=false:=by rw[hz1.o,hn'];rfl
   clear hz1 hn
   go_enter Tryz.func130,Tryz.ntmps130
   go_wp2_with fail
   go_ret
   exact⟨rfl,HB0.o⟩
 have h3':(k==3)=false:=by simpa using h3
 have h4':(k==4)=false:=by simpa using h4
 obtain rfl:q=false:=by rw[hz.o,if_neg h1,if_neg h2,if_neg h3,if_neg h4]
 clear hz hN
 go_enter Tryz.func130,Tryz.ntmps130
 go_wp2_with fail
 go_ret
 exact⟨rfl,HB0.o⟩
theorem Rw:∀ e,zh e:=E.ind fun k s n l ih=>by
 by_cases h:k=4
 ·subst h;exact KF s n l ih
 ·exact Oe k s n l h
def qI (t:T):Prop:=t.Fine→∀ (A:Option Addr)(c:Nat)(w:World),t.kids.length≤c→fA w w.heap.size A t.kids →
 Calls Tryz.prog 84 #[t.val A c] w fun r w'=>(∃ A' c',r=.returned (.tuple #[(dX t).1.val A' c',.int .i64 (dX t).2.1,.int .i64 (dX t).2.2])∧jG w' (fun k=>w.heap.size≤k∧k<w'.heap.size) A' (dX t).1.kids)∧Below w.heap.size w w'
theorem Jy (k:Int)(s:ByteArray)(n:Int)(l:List T)(a:Int)(hk1:k≠1):qI (.mk k s n l a):=by
 intro oZ A c w _ hA
 obtain⟨_,_,_,_,_,_,_,hsz,_⟩:=oZ
 simp only[T.val,T.k,T.s,T.n,T.kids,T.at_] at hA ⊢
 have hz:Hid (dX (.mk k s n l a)=if k=2 then (if nameB s then (.mk 1 s 0 [],0,0) else (zeroE,20,a)) else if k=3 then (.mk 2 ⟨#[]⟩ n [],0,0) else if k=4 then (.mk 3 s 0 [],0,0) else (zeroE,12,a)):=ae (by
  rw[dX.eq_def]
  simp only[if_neg hk1])
 obtain⟨w1,dZ⟩:∃ w1,w1=(w.alloc (.cells #[.int .i64 k,.string s,.int .i64 n,.slice A l.length c,.int .i64 a] 86)).alloc (.cells #[.int .i64 0,.string ⟨#[]⟩,.int .i64 0,.slice none 0 0] 38):=⟨_,rfl⟩
 have hb1:Below w.heap.size w w1:=by rw[dZ];exact ((aG _ _).alloc (aF _) _).alloc (by simp) _
 have hws:w1.heap.size=w.heap.size+2:=by rw[dZ];simp
 have HB1:=ae hb1
 have hB:Hid (w1.heap[w.heap.size+1]?=some (.cells #[.int .i64 0,.string ⟨#[]⟩,.int .i64 0,.slice none 0 0] 38 (0,0))):=ae (by
  rw[dZ]
  have:=aH (w.alloc (.cells #[.int .i64 k,.string s,.int .i64 n,.slice A l.length c,.int .i64 a] 86)) (.cells #[.int .i64 0,.string ⟨#[]⟩,.int .i64 0,.slice none 0 0] 38)
  simpa using this)
 have rq:Hid (w1.cell? ⟨w.heap.size,0,none⟩=some (.int .i64 k)∧w1.cell? ⟨w.heap.size,1,none⟩=some (.string s)∧w1.cell? ⟨w.heap.size,2,none⟩=some (.int .i64 n)∧w1.cell? ⟨w.heap.size,3,none⟩=some (.slice A l.length c)∧w1.cell? ⟨w.heap.size,4,none⟩=some (.int .i64 a)):=ae (by rw[dZ];simp)
 have HW1:=ae dZ
 have hN:=ae (vF s (by omega) w1)
 generalize dX (.mk k s n l a)=q at *
 generalize l.length=ln at *
 clear hA dZ hb1
 have ac9:(k != 1)=true:=by simpa using hk1
 by_cases h2:k=2
 ·subst h2
  cases hnb:nameB s
  ·have hq:Hid (q=(zeroE,20,a)):=ae (by rw[hz.o,if_pos rfl,hnb];rfl)
   rw[hnb] at hN
   clear hz
   go_enter Tryz.func84,Tryz.ntmps84
   go_wp2_with fail
   rw[←HW1.o]
   refine (hN.o).mono ?_
   rintro e w2 ⟨rfl,hb2⟩
   have hs2:=hb2.size
   have HB2:=ae (HB1.o.trans (hb2.mono (by omega)))
   have hR2:Hid (w2.heap[w.heap.size+1]?=some (.cells #[.int .i64 0,.string ⟨#[]⟩,.int .i64 0,.slice none 0 0] 38 (0,0))):=ae ((hb2.block _ (by omega)).trans hB.o)
   have d4:w2.cell? ⟨w.heap.size,4,none⟩=some (.int .i64 a):=(hb2.cell (p:=⟨w.heap.size,4,none⟩) (show w.heap.size<_ by omega)).trans rq.o.2.2.2.2
   obtain⟨⟨k0,k1,k2,k3⟩,f0,f1,f2,f3⟩:=fQ hR2.o
   clear hb2
   go_wp2_with fail
   go_region
   go_wp2_with fail
   refine aJ (eP rfl rfl rfl rfl (show ((qL w2 (w.heap.size+1) _ _ _ _).drew).heap[w.heap.size+1]?=_ from eY hR2.o)) rfl ?_
   exact⟨⟨none,0,by rw[hq.o];rfl,by rw[hq.o];exact .nil _⟩,(fC HB2.o (aW _)).drew⟩
  ·have hq:Hid (q=(.mk 1 s 0 [],0,0)):=ae (by rw[hz.o,if_pos rfl,hnb];rfl)
   rw[hnb] at hN
   clear hz
   go_enter Tryz.func84,Tryz.ntmps84
   go_wp2_with fail
   rw[←HW1.o]
   refine (hN.o).mono ?_
   rintro e w2 ⟨rfl,hb2⟩
   have hs2:=hb2.size
   have HB2:=ae (HB1.o.trans (hb2.mono (by omega)))
   have hR2:Hid (w2.heap[w.heap.size+1]?=some (.cells #[.int .i64 0,.string ⟨#[]⟩,.int .i64 0,.slice none 0 0] 38 (0,0))):=ae ((hb2.block _ (by omega)).trans hB.o)
   have d1:w2.cell? ⟨w.heap.size,1,none⟩=some (.string s):=(hb2.cell (p:=⟨w.heap.size,1,none⟩) (show w.heap.size<_ by omega)).trans rq.o.2.1
   obtain⟨⟨k0,k1,k2,k3⟩,f0,f1,f2,f3⟩:=fQ hR2.o
   clear hb2
   go_wp2_with fail
   refine aJ (eP rfl rfl rfl rfl (eY hR2.o)) rfl ?_
   exact⟨⟨none,0,by rw[hq.o];rfl,by rw[hq.o];exact .nil _⟩,fC HB2.o (aW _)⟩
 have h2':(k==2)=false:=by simpa using h2
 by_cases h3:k=3
 ·subst h3
  have hq:Hid (q=(.mk 2 ⟨#[]⟩ n [],0,0)):=ae (by rw[hz.o,if_neg (by decide),if_pos rfl])
  clear hz hN
  go_enter Tryz.func84,Tryz.ntmps84
  go_upto_region 1 with (fail)
  rw[←HW1.o]
  obtain⟨⟨k0,k1,k2,k3⟩,f0,f1,f2,f3⟩:=fQ hB.o
  obtain⟨d0,d1,d2,d3,d4⟩:=rq.o
  go_wp2_with fail
  refine aJ (eP rfl rfl rfl rfl (eY hB.o)) rfl ?_
  exact⟨⟨none,0,by rw[hq.o];rfl,by rw[hq.o];exact .nil _⟩,fC HB1.o (aW _)⟩
 have h3':(k==3)=false:=by simpa using h3
 by_cases h4:k=4
 ·subst h4
  have hq:Hid (q=(.mk 3 s 0 [],0,0)):=ae (by rw[hz.o,if_neg (by decide),if_neg (by decide),if_pos rfl])
  clear hz hN
  go_enter Tryz.func84,Tryz.ntmps84
  go_upto_region 1 with (fail)
  rw[←HW1.o]
  obtain⟨⟨k0,k1,k2,k3⟩,f0,f1,f2,f3⟩:=fQ hB.o
  obtain⟨d0,d1,d2,d3,d4⟩:=rq.o
  go_wp2_with fail
  refine aJ (eP rfl rfl rfl rfl (eY hB.o)) rfl ?_
  exact⟨⟨none,0,by rw[hq.o];rfl,by rw[hq.o];exact .nil _⟩,fC HB1.o (aW _)⟩
 have h4':(k==4)=false:=by simpa using h4
 have hq:Hid (q=(zeroE,12,a)):=ae (by rw[hz.o,if_neg h2,if_neg h3,if_neg h4])
 clear hz hN
 go_enter Tryz.func84,Tryz.ntmps84
 go_upto_region 1 with (fail)
 rw[←HW1.o]
 obtain⟨⟨k0,k1,k2,k3⟩,f0,f1,f2,f3⟩:=fQ hB.o
 obtain⟨d0,d1,d2,d3,d4⟩:=rq.o
 go_wp2_with fail
 go_region
 go_wp2_with fail
 refine aJ (eP rfl rfl rfl rfl (show ((qL w1 (w.heap.size+1) _ _ _ _).drew).heap[w.heap.size+1]?=_ from eY hB.o)) rfl ?_
 exact⟨⟨none,0,by rw[hq.o];rfl,by rw[hq.o];exact .nil _⟩,(fC HB1.o (aW _)).drew⟩
theorem BU (s:ByteArray)(n:Int)(l:List T)(a:Int)(hbad:l=[]∨∃ x ks,l=x::ks∧(x.k≠2∨gX x.s.toList=0))(A:Option Addr)(c:Nat)(w:World)(hA:fA w w.heap.size A l) :
 Calls Tryz.prog 84 #[.agg #[.int .i64 1,.string s,.int .i64 n,.slice A l.length c,.int .i64 a]] w (nC (zeroE,12,a) w):=by
 obtain⟨w1,dZ⟩:∃ w1,w1=(w.alloc (.cells #[.int .i64 1,.string s,.int .i64 n,.slice A l.length c,.int .i64 a] 86)).alloc (.cells #[.int .i64 0,.string ⟨#[]⟩,.int .i64 0,.slice none 0 0] 38):=⟨_,rfl⟩
 have hb1:Below w.heap.size w w1:=by rw[dZ];exact ((aG _ _).alloc (aF _) _).alloc (by simp) _
 have HB1:=ae hb1
 have hB:Hid (w1.heap[w.heap.size+1]?=some (.cells #[.int .i64 0,.string ⟨#[]⟩,.int .i64 0,.slice none 0 0] 38 (0,0))):=ae (by
  rw[dZ]
  have:=aH (w.alloc (.cells #[.int .i64 1,.string s,.int .i64 n,.slice A l.length c,.int .i64 a] 86)) (.cells #[.int .i64 0,.string ⟨#[]⟩,.int .i64 0,.slice none 0 0] 38)
  simpa using this)
 have rq:Hid (w1.cell? ⟨w.heap.size,3,none⟩=some (.slice A l.length c)∧w1.cell? ⟨w.heap.size,4,none⟩=some (.int .i64 a)):=ae (by rw[dZ];simp)
 have d0:w1.cell? ⟨w.heap.size,0,none⟩=some (.int .i64 1):=by rw[dZ];simp
 have HW1:=ae dZ
 have HA:=ae ((hA.low hb1).more hb1.size)
 clear dZ hb1 hA
 rcases hbad with rfl|⟨x,ks,rfl,hx⟩
 ·simp only[List.length_nil] at rq HW1 ⊢
  go_enter Tryz.func84,Tryz.ntmps84
  go_upto_region 1 with (fail)
  rw[←HW1.o]
  obtain⟨⟨k0,k1,k2,k3⟩,f0,f1,f2,f3⟩:=fQ hB.o
  obtain⟨d3,d4⟩:=rq.o
  go_wp2_with fail
  go_region
  go_wp2_with fail
  refine aJ (eP rfl rfl rfl rfl (show ((qL w1 (w.heap.size+1) _ _ _ _).drew).heap[w.heap.size+1]?=_ from eY hB.o)) rfl ?_
  exact⟨⟨none,0,rfl,.nil _⟩,(fC HB1.o (aW _)).drew⟩
 ·obtain⟨b,o,A',c',rfl,hlt,x0,x1,_,_,_,_,_⟩:=HA.o.gy w1 (aG _ _) 0 x rfl
  rw[Nat.zero_mul,Nat.add_zero] at x0 x1
  have hlen:(x::ks).length≤9223372036854775807:=HA.o.len
  obtain⟨m,em⟩:∃ m,m=ks.length:=⟨_,rfl⟩
  simp only[bf,←em] at rq HW1 hlen ⊢
  have hm0:(0:Int)<((m+1:Nat):Int):=by omega
  have hm1:(((m+1:Nat):Int)==0)=false:=by simp;omega
  obtain⟨xk,xs,xn,xl,xa⟩:=x
  simp only[T.k,T.s] at x0 x1 hx
  have hC:=ae (wO xs w1)
  clear HA em
  by_cases hk:xk=2
  ·subst hk
   have hc0:gX xs.toList=0:=by
    rcases hx with hx|hx
    ·exact absurd rfl hx
    ·exact hx
   rw[hc0] at hC
   clear hx hc0
   go_enter Tryz.func84,Tryz.ntmps84
   go_upto_region 1 with (fail)
   rw[←HW1.o]
   obtain⟨⟨k0,k1,k2,k3⟩,f0,f1,f2,f3⟩:=fQ hB.o
   obtain⟨d3,d4⟩:=rq.o
   go_wp2_with fail
   refine hC.o.mono ?_
   rintro e w2 ⟨rfl,rfl⟩
   go_wp2_with fail
   go_region
   go_wp2_with fail
   refine aJ (eP rfl rfl rfl rfl (show ((qL w1 (w.heap.size+1) _ _ _ _).drew).heap[w.heap.size+1]?=_ from eY hB.o)) rfl ?_
   exact⟨⟨none,0,rfl,.nil _⟩,(fC HB1.o (aW _)).drew⟩
  ·have hk':(xk != 2)=true:=by simpa using hk
   clear hx hC
   go_enter Tryz.func84,Tryz.ntmps84
   go_upto_region 1 with (fail)
   rw[←HW1.o]
   obtain⟨⟨k0,k1,k2,k3⟩,f0,f1,f2,f3⟩:=fQ hB.o
   obtain⟨d3,d4⟩:=rq.o
   go_wp2_with fail
   go_region
   go_wp2_with fail
   refine aJ (eP rfl rfl rfl rfl (show ((qL w1 (w.heap.size+1) _ _ _ _).drew).heap[w.heap.size+1]?=_ from eY hB.o)) rfl ?_
   exact⟨⟨none,0,rfl,.nil _⟩,(fC HB1.o (aW _)).drew⟩
theorem Gu (s:ByteArray)(n:Int)(x:T)(ks:List T)(a:Int)(hk2:x.k=2)(hc0:gX x.s.toList≠0)(hne:ks.length≠gX x.s.toList)(A:Option Addr)(c:Nat)(w:World)(hA:fA w w.heap.size A (x::ks)) :
 Calls Tryz.prog 84 #[.agg #[.int .i64 1,.string s,.int .i64 n,.slice A (x::ks).length c,.int .i64 a]] w (nC (zeroE,23,a) w):=by
 obtain⟨m,em⟩:∃ m,m=ks.length:=⟨_,rfl⟩
 have hlen:(x::ks).length≤9223372036854775807:=hA.len
 rw[←em] at hne
 simp only[bf,←em] at hlen ⊢
 obtain⟨w1,dZ⟩:∃ w1,w1=(w.alloc (.cells #[.int .i64 1,.string s,.int .i64 n,.slice A (m+1) c,.int .i64 a] 86)).alloc (.cells #[.int .i64 0,.string ⟨#[]⟩,.int .i64 0,.slice none 0 0] 38):=⟨_,rfl⟩
 have hb1:Below w.heap.size w w1:=by rw[dZ];exact ((aG _ _).alloc (aF _) _).alloc (by simp) _
 have hws:w1.heap.size=w.heap.size+2:=by rw[dZ];simp
 have HB1:=ae hb1
 have hB:Hid (w1.heap[w.heap.size+1]?=some (.cells #[.int .i64 0,.string ⟨#[]⟩,.int .i64 0,.slice none 0 0] 38 (0,0))):=ae (by
  rw[dZ]
  have:=aH (w.alloc (.cells #[.int .i64 1,.string s,.int .i64 n,.slice A (m+1) c,.int .i64 a] 86)) (.cells #[.int .i64 0,.string ⟨#[]⟩,.int .i64 0,.slice none 0 0] 38)
  simpa using this)
 have rq:Hid (w1.cell? ⟨w.heap.size,3,none⟩=some (.slice A (m+1) c)∧w1.cell? ⟨w.heap.size,4,none⟩=some (.int .i64 a)):=ae (by rw[dZ];simp)
 have d0:w1.cell? ⟨w.heap.size,0,none⟩=some (.int .i64 1):=by rw[dZ];simp
 have HW1:=ae dZ
 obtain⟨b,o,A',c',rfl,hlt,x0,x1,_,_,_,_,_⟩:=((hA.low hb1).more hb1.size).gy w1 (aG _ _) 0 x rfl
 rw[Nat.zero_mul,Nat.add_zero] at x0 x1
 have hm0:(0:Int)<((m+1:Nat):Int):=by omega
 have hm1:(((m+1:Nat):Int)==0)=false:=by simp;omega
 obtain⟨xk,xs,xn,xl,xa⟩:=x
 simp only[T.k,T.s] at x0 x1 hk2 hc0 hne
 subst hk2
 have hC:=ae (wO xs)
 generalize gX xs.toList=cn at *
 have hcz:((cn:Int)==0)=false:=by simp;omega
 have hn1:((m:Int) != (cn:Int))=true:=by simp;omega
 clear hA em dZ hb1 hc0 hne
 go_enter Tryz.func84,Tryz.ntmps84
 go_upto_region 1 with (fail)
 rw[←HW1.o]
 obtain⟨d3,d4⟩:=rq.o
 go_wp2_with fail
 refine (hC.o _).mono ?_
 rintro e w2 ⟨rfl,rfl⟩
 go_upto_region 12 with (fail)
 obtain⟨⟨k0,k1,k2,k3⟩,f0,f1,f2,f3⟩:=fQ hB.o
 go_quiet ((go_at_call 127;exact Calls.quiet_of_same ((hC.o _).mono fun e w' ⟨h1,h2⟩=>⟨h1,h2.symm⟩)))
 go_wp2_with fail
 go_region
 go_wp2_with fail
 refine aJ (eP rfl rfl rfl rfl (show (qL (w1.drewN _) (w.heap.size+1) _ _ _ _).heap[w.heap.size+1]?=_ from eY (show (w1.drewN _).heap[w.heap.size+1]?=_ from hB.o))) rfl ?_
 exact⟨⟨none,0,rfl,.nil _⟩,fC (below_drewN HB1.o _) (aW _)⟩
theorem Il:∀ t:T,t.Good→t.Fine:=T.ind fun k s n l a ih h=>by
 obtain⟨_,_,_,_,_,h1,h2,h3,_,_,hk⟩:=h
 exact .mk k s n l a h1 h2 (by omega) fun e he=>ih e he (hk e he)
theorem OM:zeroE.Fine:=.mk _ _ _ _ (by decide) (by decide) (by decide) (fun e he=>by cases he)
theorem LC:zeroE.Texts:=.mk _ _ _ _ (fun h=>by simp at h) (fun e he=>by cases he)
def EG (q:E×Int×Int):Prop:=q.1.Fine∧q.1.Texts∧(q.2.1=0→gI q.1=true)∧(q.2.1≠0→q.1=zeroE)
theorem lN (why at_:Int)(h:why≠0):EG (zeroE,why,at_):=⟨OM,LC,fun e=>absurd e h,fun _=>rfl⟩
theorem EH:∀ l:List T,(∀ t∈l,EG (dX t))→(∀ e∈(eH l).1,e.Fine∧e.Texts)∧((eH l).2.1=0→(eH l).1.length=l.length∧lU (eH l).1=true)
 | [],_=>⟨fun e he=>by simp[eH] at he,fun _=>by simp[eH,lU]⟩
 | x::l,h=>by
   obtain⟨i1,i2⟩:=EH l fun t ht=>h t (bG _ ht)
   obtain⟨x1,x2,x3,_⟩:=h x bH
   rw[eH]
   by_cases hx:(dX x).2.1=0
   ·rw[if_pos hx]
    refine⟨fun e he=>?_,fun h0=>?_⟩
    ·rcases bZ.1 he with rfl|he
     ·exact⟨x1,x2⟩
     ·exact i1 e he
    ·obtain⟨j1,j2⟩:=i2 h0
     refine⟨by simp only[bf,j1],?_⟩
     rw[lU,x3 hx,j2];rfl
   ·rw[if_neg hx]
    exact⟨fun e he=>absurd (show e∈([]:List E) from he) (by simp),fun h0=>absurd h0 hx⟩
theorem SL:∀ t:T,t.Good→EG (dX t):=T.ind fun k s n l a ih h=>by
 obtain⟨_,_,_,_,_,h1,h2,h3,h4,hl,hk⟩:=h
 rw[dX.eq_def]
 simp only
 by_cases k2:k=2
 ·rw[if_pos k2]
  cases hn:nameB s
  ·exact lN 20 a (by decide)
  ·refine⟨.mk _ _ _ _ (by decide) (by decide) (by show s.size≤_;omega) (fun e he=>by cases he),.mk _ _ _ _ (fun h=>by simp at h) (fun e he=>by cases he),fun _=>?_,fun h=>absurd rfl h⟩
   show gI (.mk 1 s 0 [])=true
   rw[gI,if_pos rfl,hn];rfl
 rw[if_neg k2]
 by_cases k3:k=3
 ·rw[if_pos k3]
  refine⟨.mk _ _ _ _ h1 h2 (by decide) (fun e he=>by cases he),.mk _ _ _ _ (fun h=>by simp at h) (fun e he=>by cases he),fun _=>?_,fun h=>absurd rfl h⟩
  show gI (.mk 2 ⟨#[]⟩ n [])=true
  rw[gI,if_neg (by decide),if_pos rfl,ByteArray.toList_eq];rfl
 rw[if_neg k3]
 by_cases k4:k=4
 ·rw[if_pos k4]
  refine⟨.mk _ _ _ _ (by decide) (by decide) (by show s.size≤_;omega) (fun e he=>by cases he),.mk _ _ _ _ (fun _=>h4 k4) (fun e he=>by cases he),fun _=>?_,fun h=>absurd rfl h⟩
  show gI (.mk 3 s 0 [])=true
  rw[gI,if_neg (by decide),if_neg (by decide),if_pos rfl];rfl
 rw[if_neg k4]
 by_cases k1:k=1
 ·rw[if_pos k1]
  match l with
  | []=>exact lN 12 a (by decide)
  | x::ks =>
    simp only
    by_cases hx:x.k=2∧gX x.s.toList≠0
    ·rw[if_pos hx]
     by_cases hc:ks.length=gX x.s.toList
     ·rw[if_pos hc]
      obtain⟨i1,i2⟩:=EH ks fun t ht=>ih t (bG _ ht) (hk t (bG _ ht))
      obtain⟨_,_,_,_,_,_,_,g3,_⟩:=hk x bH
      by_cases h0:(eH ks).2.1=0
      ·rw[if_pos h0]
       obtain⟨j1,j2⟩:=i2 h0
       refine⟨.mk _ _ _ _ (by decide) (by decide) (by show ByteArray.size _≤_;simp only[T.s];omega) (fun e he=>(i1 e he).1),.mk _ _ _ _ (fun h=>by simp at h) (fun e he=>(i1 e he).2),fun _=>?_,fun h=>absurd rfl h⟩
       show gI (.mk 4 _ 0 (eH ks).1)=true
       rw[gI,if_neg (by decide),if_neg (by decide),if_neg (by decide),if_pos rfl,j1,j2,hc]
       simp
       have:=hx.2
       omega
      ·rw[if_neg h0];exact lN _ _ h0
     ·rw[if_neg hc];exact lN 23 a (by decide)
    ·rw[if_neg hx];exact lN 12 a (by decide)
 ·rw[if_neg k1];exact lN 12 a (by decide)
def vN:Value→Nat
 | .string b=>if b.size=0 then 1 else 0
 | _=>0
def Ld (m:Nat)(l:List UInt8):List UInt8:=if m=0∧l≠[] then l else Lib.decDigits m++l
theorem Su (m:Nat)(l:List UInt8)(h:0<m∨l=[]):Ld (m / 10) (UInt8.ofNat (48+m % 10)::l)=Ld m l:=by
 unfold Ld
 have h1:¬(m=0∧l≠[]):=by rintro⟨rfl,h2⟩;rcases h with h|h;omega;exact h2 h
 rw[if_neg h1]
 by_cases h2:m<10
 ·have e1:m / 10=0:=by omega
  have e2:m % 10=m:=by omega
  rw[e1,e2,if_pos ⟨rfl,by simp⟩,Lib.decDigits,dif_pos h2]
  rfl
 ·have e1:m / 10≠0:=by omega
  rw[if_neg (fun h=>e1 h.1),Lib.decDigits.eq_1 m,dif_neg h2,List.append_assoc]
  rfl
theorem Gl (c:UInt8)(l:List UInt8):vN (.string ⟨(c::l).toArray⟩)=0:=by
 show (if (ByteArray.mk (c::l).toArray).size=0 then 1 else 0)=0
 exact if_neg (by show ¬(c::l).length=0;simp)
theorem Yf:∀ i:Fin 10,(ByteArray.mk #[48,49,50,51,52,53,54,55,56,57]).extract i.val (i.val+1)=⟨#[UInt8.ofNat (48+i.val)]⟩:=by decide +kernel
theorem Qv (m:Nat)(l:List UInt8):(ByteArray.mk #[48,49,50,51,52,53,54,55,56,57]).extract (m % 10) (m % 10+1)++⟨l.toArray⟩=⟨(UInt8.ofNat (48+m % 10)::l).toArray⟩:=by
 rw[Yf ⟨m % 10,by omega⟩]
 apply ByteArray.ext
 simp
theorem Et (n:Int)(h0:-9223372036854775808≤n)(h1:n≤9223372036854775807)(w:World) :
 Calls Tryz.prog 128 #[.int .i64 n] w fun e w'=>e=.returned (.string ⟨(Lib.itoa n).toArray⟩)∧w'=w:=by
 obtain⟨M,hM⟩:∃ M:Nat,M=n.natAbs:=⟨_,rfl⟩
 have HM:=ae hM
 have hMb:M<18446744073709551616:=by omega
 clear hM
 go_enter Tryz.func128,Tryz.ntmps128
 go_upto_if 9 with (fail)
 go_cut [3] (fun s3 wx=>s3=.int .u64 M∧wx=w)
 case first =>
  by_cases hn:n<0
  ·have e1:Hid (IntKind.u64.wrap (IntKind.u64.wrap (-(n+1))+1)=M):=ae (by rw[IntKind.wrap_u64,IntKind.wrap_u64,HM.o];omega)
   go_wp2
   go_meet
   exact⟨by first|(with_reducible rfl)|exact congrArg (Value.int .u64) e1.o|exact congrArg (Value.int .u64) (by have:=HM.o;omega),rfl⟩
  ·have e1:Hid (IntKind.u64.wrap n=M):=ae (by rw[IntKind.wrap_u64,HM.o];omega)
   go_wp2
   go_meet
   exact⟨by first|(with_reducible rfl)|exact congrArg (Value.int .u64) e1.o|exact congrArg (Value.int .u64) (by have:=HM.o;omega),rfl⟩
 case rest =>
 obtain⟨rfl,hwc⟩:=hcut
 obtain rfl:w=wc:=hwc.symm
 clear hwc
 go_wp2_with fail
 go_loop [3,4] (fun u s=>∃ (m:Nat)(l:List UInt8),u=.int .u64 m∧s=.string ⟨l.toArray⟩∧m<18446744073709551616∧Hid (Ld m l=Lib.decDigits M)) (fun u s=>2*(intOf u).toNat+vN s)
 case atStart=>exact⟨M,[],rfl,rfl,hMb,ae (by unfold Ld;rw[if_neg (by simp),List.append_nil])⟩
 case round =>
  obtain⟨m,l,rfl,rfl,hm,hz⟩:=hrel
  have hll:l.length≤20:=by
   have h2:=congrArg List.length hz.o
   rw[Lib.decDigits_length] at h2
   have h3:=Lib.nDigits_le20 M hMb
   have h4:l.length≤(Ld m l).length:=by unfold Ld;split <;> simp
   omega
  by_cases hgo:0<m∨l=[]
  ·have hst:=ae ((Su m l hgo).trans hz.o)
   clear hz
   have h10:(m:Int) % 10<10:=by omega
   have h11:0≤(m:Int) % 10:=by omega
   have hmin:min (m % 10+1) 10=m % 10+1:=by omega
   have ahs:Hid (m / 10<18446744073709551616):=ae (by omega)
   by_cases hm0:0<m
   ·have d1:decide (0<(m:Int))=true:=decide_eq_true (by omega)
    go_wp2
    go_round
    case rel=>exact⟨m / 10,UInt8.ofNat (48+m % 10)::l,by go_num,by rw[Qv],ahs.o,hst⟩
    case measure =>
     show 2*(intOf (.int .u64 ((m:Int) / 10))).toNat+vN (.string (_++_))<2*(intOf (.int .u64 (m:Int))).toNat+vN _
     rw[Qv,Gl]
     simp only[intOf]
     omega
   ·obtain rfl:m=0:=by omega
    obtain rfl:l=[]:=by rcases hgo with h|h;omega;exact h
    go_wp2
    go_round
    case rel=>exact⟨0,[48],rfl,rfl,by decide,hst⟩
    case measure=>simp[intOf,vN];decide
  ·obtain rfl:m=0:=by omega
   have hl:l≠[]:=fun h=>hgo (.inr h)
   have hf:Hid (l=Lib.decDigits M):=ae (by have:=hz.o;unfold Ld at this;rwa [if_pos ⟨rfl,hl⟩] at this)
   have hsz:l.isEmpty=false:=by cases l with|nil=>exact absurd rfl hl|cons a l=>rfl
   clear hz hgo
   by_cases hn:n<0
   ·have hi:Hid (Lib.itoa n=45::l):=ae (by unfold Lib.itoa;rw[if_pos hn,hf.o,HM.o])
    go_wp2
    go_ret
    refine⟨?_,rfl⟩
    rw[hi.o]
    show Ending.returned (Value.string (_++_))=_
    have e:(ByteArray.mk #[45])++⟨l.toArray⟩=⟨(45::l).toArray⟩:=by apply ByteArray.ext;simp
    rw[e]
   ·have hi:Hid (Lib.itoa n=l):=ae (by unfold Lib.itoa;rw[if_neg hn,hf.o,HM.o];congr 1;omega)
    go_wp2
    go_ret
    exact⟨by rw[hi.o];rfl,rfl⟩
end Go.Proofs.YtjhkihkiebnpaaaGreatDoor
