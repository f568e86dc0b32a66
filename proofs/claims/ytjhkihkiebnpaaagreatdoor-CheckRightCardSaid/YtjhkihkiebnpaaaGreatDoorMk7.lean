/-
  The reference's reader of brackets: signs.
-/
import Derived.Test.YtjhkihkiebnpaaaGreatDoorMk0
import Derived.Deep.DeepCutAuto
import Derived.ChangeAlike
import Derived.Test.YtjhkihkiebnpaaaGreatDoorMk1
import Derived.Deep.RegionLaw
import Derived.Laws.IdiomStrings
import Derived.Test.YtjhkihkiebnpaaaGreatDoorMk6
import Derived.Test.YtjhkihkiebnpaaaGreatDoorMk4
import Derived.Test.YtjhkihkiebnpaaaGreatDoorMk2
import Derived.Test.YtjhkihkiebnpaaaGreatDoorMk3
import Derived.OwnWalk
set_option linter.unusedVariables false
set_option linter.unusedSimpArgs false
set_option maxRecDepth 100000
set_option maxHeartbeats 40000000
namespace Go.Proofs.YtjhkihkiebnpaaaGreatDoor
open Go.RowKit
def nI (c:UInt8):Bool:=decide (97≤(c.toNat:Int))&&decide ((c.toNat:Int)≤122)
def AQ (c:UInt8):Bool:=decide (48≤(c.toNat:Int))&&decide ((c.toNat:Int)≤57)
theorem xZ (c:UInt8)(w:World):Calls Tryz.prog 78 #[.int .u8 (c.toNat:Int)] w fun e w'=>e=.returned (.bool (nI c))∧w=w':=by
 unfold nI
 cases a1:decide (97≤(c.toNat:Int))
 ·go_enter Tryz.func78,Tryz.ntmps78
  go_wp2
  go_ret
  exact ⟨rfl,rfl⟩
 ·cases a2:decide ((c.toNat:Int)≤122)
  all_goals
   go_enter Tryz.func78,Tryz.ntmps78
   go_wp2
   go_ret
   exact ⟨rfl,rfl⟩
theorem sG (c:UInt8)(w:World):Calls Tryz.prog 79 #[.int .u8 (c.toNat:Int)] w fun e w'=>e=.returned (.bool (AQ c))∧w=w':=by
 unfold AQ
 cases a1:decide (48≤(c.toNat:Int))
 ·go_enter Tryz.func79,Tryz.ntmps79
  go_wp2
  go_ret
  exact ⟨rfl,rfl⟩
 ·cases a2:decide ((c.toNat:Int)≤57)
  all_goals
   go_enter Tryz.func79,Tryz.ntmps79
   go_wp2
   go_ret
   exact ⟨rfl,rfl⟩
theorem Ql (c:UInt8)(w:World):Calls Tryz.prog 154 #[.int .u8 (c.toNat:Int)] w fun e w'=>(∃ h:Int,e=.returned (.int .i64 h)∧-1≤h∧h≤15)∧w=w':=by
 have hD:=anc (sG c w)
 by_cases h1:AQ c=true
 ·have h1':=h1
  rw [h1] at hD
  unfold AQ at h1
  simp only [Bool.and_eq_true,decide_eq_true_eq] at h1
  obtain ⟨b1,b2⟩:=h1
  clear h1'
  go_enter Tryz.func154,Tryz.ntmps154
  go_wp2_with fail
  refine (hD.out).mono ?_
  rintro e w' ⟨rfl,rfl⟩
  go_wp2_with fail
  go_ret
  exact ⟨⟨_,rfl,by omega,by omega⟩,rfl⟩
 ·have h1':AQ c=false:=by simpa using h1
  rw [h1'] at hD
  clear h1 h1'
  by_cases a1:97≤(c.toNat:Int)
  ·by_cases a2:(c.toNat:Int)≤102
   ·go_enter Tryz.func154,Tryz.ntmps154
    go_wp2_with fail
    refine (hD.out).mono ?_
    rintro e w' ⟨rfl,rfl⟩
    go_wp2_with fail
    go_ret
    exact ⟨⟨_,rfl,by omega,by omega⟩,rfl⟩
   ·go_enter Tryz.func154,Tryz.ntmps154
    go_wp2_with fail
    refine (hD.out).mono ?_
    rintro e w' ⟨rfl,rfl⟩
    go_wp2_with fail
    go_ret
    exact ⟨⟨_,rfl,by omega,by omega⟩,rfl⟩
  ·go_enter Tryz.func154,Tryz.ntmps154
   go_wp2_with fail
   refine (hD.out).mono ?_
   rintro e w' ⟨rfl,rfl⟩
   go_wp2_with fail
   go_ret
   exact ⟨⟨_,rfl,by omega,by omega⟩,rfl⟩
def NumEnd (s:ByteArray)(p:Nat)(e:Ending):Prop:=∃ (n:Int)(i:Nat)(ok:Bool),e=.returned (.tuple #[.int .i64 n,.int .i64 (i:Int),.bool ok])∧i≤s.size∧(ok=true→p<i)∧-9223372036854775808≤n∧n≤9223372036854775807
theorem nZ (x:Int):-9223372036854775808≤IntKind.i64.wrap x∧IntKind.i64.wrap x≤9223372036854775807:=by
 unfold IntKind.wrap
 simp [IntKind.bits,IntKind.signed]
 omega
theorem kE (x:Int):-9223372036854775808≤wrap64 x∧wrap64 x≤9223372036854775807:=by
 unfold wrap64
 omega
theorem GM (s:ByteArray)(p:Nat)(hp:p<s.size)(hs:s.size≤600)(w:World):Calls Tryz.prog 124 #[.string s,.int .i64 (p:Int)] w fun e w'=>NumEnd s p e∧w=w':=by
 have hD:=anc (fun c=>sG c w)
 cases hq:((s[p].toNat:Int)==45)
 ·skip
  go_enter Tryz.func124,Tryz.ntmps124
  go_upto_region 7 with (fail)
  go_wp2_with fail
  go_loop [7,9,10] (fun i u q=>∃ (k:Nat)(z:Int)(b:Bool),p≤k∧k≤s.size∧i=.int .i64 k∧u=.int .u64 z∧q=.bool b) (fun i _ _=>s.size-(intOf i).toNat)
  case atStart=>exact ⟨p,0,true,by omega,by omega,by go_num,rfl,rfl⟩
  case round =>
   obtain ⟨k,z,b,hk1,hk2,rfl,rfl,rfl⟩:=hrel
   by_cases hlt:k<s.size
   ·have hdk:=anc (hD.out s[k])
    cases hdg:AQ s[k]
    ·rw [hdg] at hdk
     cases hkp:((k:Int)==(p:Int))
     ·have hkn:Hid (k≠p):=anc (by have:=hkp;simp at this;omega)
      cases b
      ·go_wp2_with fail
       refine (hdk.out).mono ?_
       rintro e w' ⟨rfl,rfl⟩
       go_wp2_with fail
       all_goals
        go_ret3
        exact ⟨⟨_,k,_,rfl,by omega,by simp,by omega,by omega⟩,rfl⟩
      ·cases hz1:decide (9223372036854775807<z)
       all_goals
        cases hz2:decide (9223372036854775808<z)
        all_goals
         go_wp2_with fail
         refine (hdk.out).mono ?_
         rintro e w' ⟨rfl,rfl⟩
         go_wp2_with fail
         all_goals
          go_ret3
          exact ⟨⟨_,k,_,rfl,by omega,by first | (simp;done) | (intro _;have:=hkn.out;omega),by first | omega | exact (nZ _).1 | exact (kE _).1,by first | omega | exact (nZ _).2 | exact (kE _).2⟩,rfl⟩
     ·go_wp2_with fail
      refine (hdk.out).mono ?_
      rintro e w' ⟨rfl,rfl⟩
      go_wp2_with fail
      all_goals
       go_ret3
       exact ⟨⟨_,k,_,rfl,by omega,by simp,by omega,by omega⟩,rfl⟩
    ·rw [hdg] at hdk
     generalize hdv:(s[k].toNat:Int)=dv at *
     cases hq9:decide ((9223372036854775808-(dv-48)) / 10<z)
     all_goals
      go_wp2_with fail
      refine (hdk.out).mono ?_
      rintro e w' ⟨rfl,rfl⟩
      go_wp2_with fail
      all_goals
       go_round
       case rel=>exact ⟨k+1,_,_,by omega,by omega,by go_num,rfl,rfl⟩
       case measure=>simp [intOf];omega
   ·obtain rfl:k=s.size:=by omega
    cases hkp:((s.size:Int)==(p:Int))
    ·have hkn:Hid (s.size≠p):=anc (by have:=hkp;simp at this;omega)
     cases b
     ·go_wp2_with fail
      all_goals
       go_ret3
       exact ⟨⟨_,s.size,_,rfl,by omega,by simp,by omega,by omega⟩,rfl⟩
     ·cases hz1:decide (9223372036854775807<z)
      all_goals
       cases hz2:decide (9223372036854775808<z)
       all_goals
        go_wp2_with fail
        all_goals
         go_ret3
         exact ⟨⟨_,s.size,_,rfl,by omega,by first | (simp;done) | (intro _;have:=hkn.out;omega),by first | omega | exact (nZ _).1 | exact (kE _).1,by first | omega | exact (nZ _).2 | exact (kE _).2⟩,rfl⟩
    ·go_wp2_with fail
     all_goals
      go_ret3
      exact ⟨⟨_,s.size,_,rfl,by omega,by simp,by omega,by omega⟩,rfl⟩
 ·skip
  go_enter Tryz.func124,Tryz.ntmps124
  go_upto_region 7 with (fail)
  go_wp2_with fail
  go_loop [7,9,10] (fun i u q=>∃ (k:Nat)(z:Int)(b:Bool),p+1≤k∧k≤s.size∧i=.int .i64 k∧u=.int .u64 z∧q=.bool b) (fun i _ _=>s.size-(intOf i).toNat)
  case atStart=>exact ⟨p+1,0,true,by omega,by omega,by go_num,rfl,rfl⟩
  case round =>
   obtain ⟨k,z,b,hk1,hk2,rfl,rfl,rfl⟩:=hrel
   by_cases hlt:k<s.size
   ·have hdk:=anc (hD.out s[k])
    cases hdg:AQ s[k]
    ·rw [hdg] at hdk
     cases hkp:((k:Int)==((p:Int)+1))
     ·have hkn:Hid (k≠p+1):=anc (by have:=hkp;simp at this;omega)
      cases b
      ·go_wp2_with fail
       refine (hdk.out).mono ?_
       rintro e w' ⟨rfl,rfl⟩
       go_wp2_with fail
       all_goals
        go_ret3
        exact ⟨⟨_,k,_,rfl,by omega,by simp,by omega,by omega⟩,rfl⟩
      ·cases hz1:decide (9223372036854775807<z)
       all_goals
        cases hz2:decide (9223372036854775808<z)
        all_goals
         go_wp2_with fail
         refine (hdk.out).mono ?_
         rintro e w' ⟨rfl,rfl⟩
         go_wp2_with fail
         all_goals
          go_ret3
          exact ⟨⟨_,k,_,rfl,by omega,by first | (simp;done) | (intro _;have:=hkn.out;omega),by first | omega | exact (nZ _).1 | exact (kE _).1,by first | omega | exact (nZ _).2 | exact (kE _).2⟩,rfl⟩
     ·go_wp2_with fail
      refine (hdk.out).mono ?_
      rintro e w' ⟨rfl,rfl⟩
      go_wp2_with fail
      all_goals
       go_ret3
       exact ⟨⟨_,k,_,rfl,by omega,by simp,by omega,by omega⟩,rfl⟩
    ·rw [hdg] at hdk
     generalize hdv:(s[k].toNat:Int)=dv at *
     cases hq9:decide ((9223372036854775808-(dv-48)) / 10<z)
     all_goals
      go_wp2_with fail
      refine (hdk.out).mono ?_
      rintro e w' ⟨rfl,rfl⟩
      go_wp2_with fail
      all_goals
       go_round
       case rel=>exact ⟨k+1,_,_,by omega,by omega,by go_num,rfl,rfl⟩
       case measure=>simp [intOf];omega
   ·obtain rfl:k=s.size:=by omega
    cases hkp:((s.size:Int)==((p:Int)+1))
    ·have hkn:Hid (s.size≠p+1):=anc (by have:=hkp;simp at this;omega)
     cases b
     ·go_wp2_with fail
      all_goals
       go_ret3
       exact ⟨⟨_,s.size,_,rfl,by omega,by simp,by omega,by omega⟩,rfl⟩
     ·cases hz1:decide (9223372036854775807<z)
      all_goals
       cases hz2:decide (9223372036854775808<z)
       all_goals
        go_wp2_with fail
        all_goals
         go_ret3
         exact ⟨⟨_,s.size,_,rfl,by omega,by first | (simp;done) | (intro _;have:=hkn.out;omega),by first | omega | exact (nZ _).1 | exact (kE _).1,by first | omega | exact (nZ _).2 | exact (kE _).2⟩,rfl⟩
    ·go_wp2_with fail
     all_goals
      go_ret3
      exact ⟨⟨_,s.size,_,rfl,by omega,by simp,by omega,by omega⟩,rfl⟩
theorem gJ {fn:Func} {t u v x:Tmp} (h:fn.results=#[.tmp t,.tmp u,.tmp v,.tmp x])(tmps:Array Value)(P:Program)(w:World) :
 (results fn tmps).run P w=.ok (.tuple #[tmps.getD t undef,tmps.getD u undef,tmps.getD v undef,tmps.getD x undef]) w:=by
 simp [results,h]
theorem Jn:(Tryz.prog.info? 5).map (fun i=>(i.zero,i.size,i.bytes))=some (some (.int .u8 0),1,1):=by kernel_rfl
def zF (b:UInt8):Value:=.int .u8 (b.toNat:Int)
def vT (l:List UInt8):List Value:=l.map zF
theorem acu (x:Int):∃ b:UInt8,zF b=.int .u8 (IntKind.u8.wrap x):=by
 have h:0≤IntKind.u8.wrap x∧IntKind.u8.wrap x<256:=by
  unfold IntKind.wrap
  simp [IntKind.bits,IntKind.signed]
  omega
 refine ⟨UInt8.ofNat (IntKind.u8.wrap x).toNat,?_⟩
 unfold zF
 congr 1
 rw [UInt8.toNat_ofNat']
 omega
def WC (s:ByteArray)(p:Nat)(e:Ending):Prop:=∃ (x:ByteArray)(i:Nat)(why at_:Int),e=.returned (.tuple #[.string x,.int .i64 (i:Int),.int .i64 why,.int .i64 at_])∧i≤s.size∧x.size≤40∧(why=0→p<i)
theorem MJ (s:ByteArray)(p:Nat)(hp:p<s.size)(hs:s.size≤600)(w:World):Calls Tryz.prog 123 #[.string s,.int .i64 (p:Int)] w fun e w'=>WC s p e∧Below w.heap.size w w':=by
 have hH:=anc (fun c w=>Ql c w)
 obtain ⟨w1,aK⟩:∃ w1,w1=w.alloc (.cells #[] 5):=⟨_,rfl⟩
 have hb1:Below w.heap.size w w1:=by rw [aK];exact (anl _ _).alloc (ank _) _
 have hws:w1.heap.size=w.heap.size+1:=by rw [aK];simp
 have HB1:=anc hb1
 have WE:Hid (w1.ownsRow w.heap.size 5 1 (.slice (some ⟨w.heap.size,0,none⟩) 0 0) 0 (vT [])):=anc ⟨rfl,.inr ⟨w.heap.size,0,#[],rfl,ank _,by rw [aK];exact anm w _,ank _,by decide,rfl,rfl⟩⟩
 have HW1:=anc aK
 obtain ⟨i0,hi,hz0,hz1,hz2⟩:=info_parts Jn
 clear aK hb1
 go_enter Tryz.func123,Tryz.ntmps123
 go_upto_region 2 with (fail)
 rw [←HW1.out]
 go_wp2_with fail
 go_loopw [8,9] (fun v i wr=>∃ (j:Nat)(l:List UInt8),p<j∧j≤s.size∧l.length≤j∧i=.int .i64 j∧wr.ownsRow w.heap.size 5 1 v l.length (vT l)∧Below w.heap.size w wr∧w.heap.size+1≤wr.heap.size∧∃ g cap,v=.slice (some ⟨g,0,none⟩) l.length cap) (fun _ i _=>s.size+1-(intOf i).toNat)
 case atStart=>exact ⟨p+1,[],by omega,by omega,by simp,by go_num,WE.out,HB1.out,by omega,_,_,rfl⟩
 case round =>
  obtain ⟨j,l,hj0,hj,hlj,rfl,hown,hb,hsz,g,cap,rfl⟩:=hrel
  have HO:=anc hown
  have HB:=anc hb
  clear hown hb
  by_cases hlt:j<s.size
  ·cases qR:((s[j].toNat:Int)==34)
   ·cases h32:decide ((s[j].toNat:Int)<32)
    ·cases Zq:decide (126<(s[j].toNat:Int))
     ·cases BG:((s[j].toNat:Int) != 92)
      ·have hdj:decide (s.size≤j)=false:=by simp;omega
       go_upto_region 15 with (fail)
       go_wp2_with fail
       go_loop [11] (fun i=>∃ m:Nat,1≤m∧m≤3∧i=.int .i64 m∧j+m≤s.size) (fun i=>3-(intOf i).toNat)
       case atStart=>exact ⟨1,by omega,by omega,by go_num,by omega⟩
       case round =>
        obtain ⟨m,hm1,KU,rfl,hjm⟩:=hrel
        by_cases hm:m≤2
        ·by_cases hjs:j+m<s.size
         ·go_wp2_with fail
          refine (hH.out _ _).mono ?_
          rintro e w' ⟨⟨h,rfl,b1,b2⟩,rfl⟩
          cases hh0:decide (h<0)
          ·go_wp2_with fail
           go_round
           case rel=>exact ⟨m+1,by omega,by omega,by go_num,by omega⟩
           case measure=>simp [intOf];omega
          ·go_wp2_with fail
           (try simp only [Exit.inBlock,Exit.then])
           refine ano (gJ rfl _ _ _) rfl ?_
           exact ⟨⟨⟨#[]⟩,0,_,_,rfl,by omega,by decide,by intro h;simp at h⟩,HB.out⟩
         ·go_wp2_with fail
          (try simp only [Exit.inBlock,Exit.then])
          refine ano (gJ rfl _ _ _) rfl ?_
          exact ⟨⟨⟨#[]⟩,0,_,_,rfl,by omega,by decide,by intro h;simp at h⟩,HB.out⟩
        ·obtain rfl:m=3:=by omega
         have dC:Hid (wr.drew.ownsRow w.heap.size 5 1 (.slice (some ⟨g,0,none⟩) l.length cap) l.length (vT l)):=anc (own_below HO.out ((anl wr.heap.size wr).drew))
         obtain ⟨j1,hj1⟩:∃ j1,j1=j+1:=⟨_,rfl⟩
         obtain ⟨j2,hj2⟩:∃ j2,j2=j+2:=⟨_,rfl⟩
         have e1:IntKind.i64.wrap ((j:Int)+1)=(j1:Int):=by rw [hj1];unfold IntKind.wrap;simp [IntKind.bits,IntKind.signed];omega
         have e2:IntKind.i64.wrap ((j:Int)+2)=(j2:Int):=by rw [hj2];unfold IntKind.wrap;simp [IntKind.bits,IntKind.signed];omega
         have l1:j1<s.size:=by omega
         have l2:j2<s.size:=by omega
         have HJ:=anc (And.intro hj1 hj2)
         clear hj1 hj2
         go_upto_region 22 with (fail)
         go_region_law (first
          | (refine step_append_lies _ rfl _ _ _ rfl w.heap.size 5 i0 _ 1 1 Tryz.underlying151 hi hz0 hz1 hz2 rfl (by decide) _ _ _ rfl (dC.out.alloc _) ⟨wr.heap.size,0,none⟩ 1 1 [_] rfl rfl (World.news_of_block (anm wr.drew _)) (by intro u hu;simp at hu;subst hu;rfl) (by decide) (by unfold maxLen;omega) (by omega) (by simp;omega) _ rfl ?_;intro g5 cap5 w5 hown5 hgrow hat hlt)
          | (go_simp;go_at_call 154;refine (hH.out _ _).mono ?_;rintro e w' ⟨⟨h,rfl,b1,b2⟩,rfl⟩))
         all_goals
          obtain ⟨hj1,hj2⟩:=HJ.out
          have Ig:=((HB.out.trans ((anl wr.heap.size wr).drew.mono (by omega))).trans (((anl wr.heap.size wr.drew).alloc (ank _) _).mono (by omega))).grown hgrow (by simp;omega) (fun g hg=>(HO.out.lt g hg).1)
          have hS5:=hgrow.size
          go_wp2_with fail
          go_roundw
          case rel =>
           obtain ⟨x,hx⟩:∃ x:Int,w5.ownsRow w.heap.size 5 1 (.slice (some ⟨g5,0,none⟩) (l.length+1) cap5) (l.length+1) (vT l++[.int .u8 (IntKind.u8.wrap x)]):=⟨_,hown5⟩
           obtain ⟨b,eb⟩:=acu x
           rw [←eb] at hx
           exact ⟨j+3,l++[b],by omega,by omega,by simp;omega,by go_num,by simpa [vT] using hx,Ig,by simp at hS5;omega,g5,cap5,by simp⟩
          case measure=>simp [intOf];omega
      ·go_wp2_with (at_builtin;refine wpList_append_own _ rfl _ _ 151 rfl w.heap.size 5 i0 _ 1 1 Tryz.underlying151 hi hz0 hz1 hz2 rfl (by decide) _ _ _ rfl (HO.out.alloc _) ⟨wr.heap.size,0,none⟩ 1 1 [zF s[j]] rfl rfl ?c1 ?c2 ?c3 ?c4 ?c5 ?_)
       case c1=>exact World.news_of_block (anm wr _)
       case c2=>intro u hu;simp at hu;subst hu;rfl
       case c3=>unfold maxLen;omega
       case c4=>omega
       case c5=>simp;omega
       intro v' w5 hown5 hgrow _
       have Ig:=((HB.out.alloc (by omega) (.cells #[zF s[j]] 5)).grown hgrow (by simp;omega) (fun g hg=>(HO.out.lt g hg).1))
       have hS5:=hgrow.size
       obtain ⟨g5,cap5,VR,_⟩:=hown5.form (by omega)
       go_wp2_with fail
       go_roundw
       case rel=>exact ⟨j+1,l++[s[j]],by omega,by omega,by simp;omega,by go_num,by simpa [vT] using hown5,Ig,by simp at hS5;omega,g5,cap5,by rw [VR];simp⟩
       case measure=>simp [intOf];omega
     ·go_wp2_with fail
      (try simp only [Exit.inBlock,Exit.then])
      refine ano (gJ rfl _ _ _) rfl ?_
      exact ⟨⟨⟨#[]⟩,0,_,_,rfl,by omega,by decide,by intro h;simp at h⟩,HB.out⟩
    ·go_wp2_with fail
     (try simp only [Exit.inBlock,Exit.then])
     refine ano (gJ rfl _ _ _) rfl ?_
     exact ⟨⟨⟨#[]⟩,0,_,_,rfl,by omega,by decide,by intro h;simp at h⟩,HB.out⟩
   ·have hcv:(Go.convert 151 9 (.slice (some ⟨g,0,none⟩) l.length cap)).run Tryz.prog wr=.ok (.string ⟨l.toArray⟩) wr :=
     run_convert_bytes_back (P:=Tryz.prog) wr 151 9 5 ⟨g,0,none⟩ cap l Tryz.underlying151 Tryz.underlying5 Tryz.underlying9 (fun q hq=>HO.out.cells rfl q _ (by simp [vT,zF,hq]))
    have hll:l.toArray.size=l.length:=rfl
    have hsz2:(⟨l.toArray⟩:ByteArray).size=l.length:=rfl
    generalize hln:l.length=ln at *
    cases xK:decide (40<(ln:Int))
    ·have TT:ln≤40:=by simp at xK;omega
     go_wp2_with fail
     (try simp only [Exit.inBlock,Exit.then])
     refine ano (gJ rfl _ _ _) rfl ?_
     exact ⟨⟨⟨l.toArray⟩,j+1,_,_,rfl,by omega,by rw [hsz2];exact TT,fun _=>by omega⟩,HB.out⟩
    ·go_wp2_with fail
     (try simp only [Exit.inBlock,Exit.then])
     refine ano (gJ rfl _ _ _) rfl ?_
     exact ⟨⟨⟨#[]⟩,0,_,_,rfl,by omega,by decide,by intro h;simp at h⟩,HB.out⟩
  ·go_wp2_with fail
   (try simp only [Exit.inBlock,Exit.then])
   refine ano (gJ rfl _ _ _) rfl ?_
   exact ⟨⟨⟨#[]⟩,0,_,_,rfl,by omega,by decide,by intro h;simp at h⟩,HB.out⟩
theorem jk {fn:Func} {p q r u:Tmp} (h:fn.results=#[.cell p 86,.tmp q,.tmp r,.tmp u]) {tmps:Array Value} {w:World} {g:Nat} {x0 x1 x2 x3 x4 a b c:Value} {t:TypeId}
 (hp:tmps.getD p undef=.pointer (some ⟨g,0,none⟩))(hq:tmps.getD q undef=a)(hr:tmps.getD r undef=b)(hu:tmps.getD u undef=c)(hg:w.heap[g]?=some (.cells #[x0,x1,x2,x3,x4] t (0,0))):(results fn tmps).run Tryz.prog w=.ok (.tuple #[.agg #[x0,x1,x2,x3,x4],a,b,c]) w:=by
 have hp':tmps[p]?.getD undef=.pointer (some ⟨g,0,none⟩):=by simpa using hp
 have hq':tmps[q]?.getD undef=a:=by simpa using hq
 have hr':tmps[r]?.getD undef=b:=by simpa using hr
 have hu':tmps[u]?.getD undef=c:=by simpa using hu
 have hl:=run_loadVar_row (P:=Tryz.prog) w g t 86 #[x0,x1,x2,x3,x4] (0,0) _ hg Tryz.underlying86 rfl (by show _=some 5;kernel_rfl)
 simp [results,h,hp',hq',hr',hu',asAddr,hl]
def TU (s:ByteArray)(p:Nat)(k n a why:Int)(x:ByteArray)(i:Nat):Prop:=∀ hp:p<s.size,nI s[p]=true→k=2∧n=0∧a=(p:Int)∧x=s.extract p i∧why=0∧p≤i∧(∀ q (hq:q<s.size),p≤q→q<i→nI s[q]=true)∧(∀ hi:i<s.size,nI s[i]=false)
def WG (s:ByteArray)(p:Nat)(e:Ending):Prop:=∃ (k n a:Int)(x:ByteArray)(i:Nat)(why at_:Int),e=.returned (.tuple #[.agg #[.int .i64 k,.string x,.int .i64 n,.slice none 0 0,.int .i64 a],.int .i64 (i:Int),.int .i64 why,.int .i64 at_])∧i≤s.size∧x.size≤600∧(k=4→x.size≤40)∧-9223372036854775808≤n∧n≤9223372036854775807∧(why=0→p<i)∧TU s p k n a why x i
theorem TV (s:ByteArray)(p:Nat)(hp:p<s.size)(hs:s.size≤600)(w:World):Calls Tryz.prog 80 #[.string s,.int .i64 (p:Int)] w fun e w'=>WG s p e∧Below w.heap.size w w':=by
 obtain ⟨w1,aK⟩:∃ w1,w1=w.alloc (.cells #[.int .i64 0,.string ⟨#[]⟩,.int .i64 0,.slice none 0 0,.int .i64 0] 86):=⟨_,rfl⟩
 have hb1:Below w.heap.size w w1:=by rw [aK];exact (anl _ _).alloc (ank _) _
 have hws:w1.heap.size=w.heap.size+1:=by rw [aK];simp
 have hB:Hid (w1.heap[w.heap.size]?=some (.cells #[.int .i64 0,.string ⟨#[]⟩,.int .i64 0,.slice none 0 0,.int .i64 0] 86 (0,0))):=anc (by rw [aK];exact anm w _)
 have HB1:=anc hb1
 have HW1:=anc aK
 have hT:=anc (MJ s p hp hs w1)
 have hN:=anc (GM s p hp hs w1)
 have hL:=anc (fun c=>xZ c w1)
 clear aK hb1
 cases qR:((s[p].toNat:Int)==34)
 ·cases hlt:nI s[p]
  ·have hlp:=anc (hL.out s[p])
   rw [hlt] at hlp
   go_enter Tryz.func80,Tryz.ntmps80
   go_upto_region 1 with (fail)
   rw [←HW1.out]
   go_wp2_with fail
   refine (hlp.out).mono ?_
   rintro e w' ⟨rfl,rfl⟩
   go_wp2_with fail
   refine (hN.out).mono ?_
   rintro e w' ⟨⟨n,i,ok,rfl,hi,hok,hn1,hn2⟩,rfl⟩
   obtain ⟨⟨k0,k1,k2,k3,k4⟩,f0,f1,f2,f3,f4⟩:=ay hB.out
   cases ok
   ·go_wp2_with fail
    refine ano (jk rfl rfl rfl rfl rfl (aB hB.out)) rfl ?_
    exact ⟨⟨_,_,_,_,0,_,_,rfl,by omega,by decide,by intro h;simp at h,by omega,by omega,by intro h;simp at h,fun _ hl=>by rw [hlt] at hl;cases hl⟩,aC HB1.out (ank _)⟩
   ·go_wp2_with fail
    refine ano (jk rfl rfl rfl rfl rfl (aB hB.out)) rfl ?_
    exact ⟨⟨_,_,_,_,i,_,_,rfl,hi,by decide,by intro h;simp at h,hn1,hn2,fun _=>by simpa using hok,fun _ hl=>by rw [hlt] at hl;cases hl⟩,aC HB1.out (ank _)⟩
  ·have hlp:=anc (hL.out s[p])
   rw [hlt] at hlp
   have HLT:=anc hlt
   clear hlt
   go_enter Tryz.func80,Tryz.ntmps80
   go_upto_region 1 with (fail)
   rw [←HW1.out]
   go_wp2_with fail
   refine (hlp.out).mono ?_
   rintro e w' ⟨rfl,rfl⟩
   go_wp2_with fail
   go_loop [12] (fun i=>∃ k:Nat,p≤k∧k≤s.size∧i=.int .i64 k∧Hid (∀ q (hq:q<s.size),p≤q→q<k→nI s[q]=true)) (fun i=>s.size-(intOf i).toNat)
   case atStart=>exact ⟨p,by omega,by omega,rfl,anc fun q hq h1 h2=>absurd h1 (by omega)⟩
   case round =>
    obtain ⟨k,hk1,hk2,rfl,hall⟩:=hrel
    by_cases hks:k<s.size
    ·have hlk:=anc (hL.out s[k])
     cases hlt:nI s[k]
     ·rw [hlt] at hlk
      have hne:p<k:=by
       rcases Nat.lt_or_ge p k with h | h
       ·exact h
       ·obtain rfl:k=p:=by omega
        rw [HLT.out] at hlt
        cases hlt
      have HLK:=anc hlt
      clear hlt
      go_wp2_with fail
      refine (hlk.out).mono ?_
      rintro e w' ⟨rfl,rfl⟩
      obtain ⟨⟨k0,k1,k2,k3,k4⟩,f0,f1,f2,f3,f4⟩:=ay hB.out
      go_wp2_with fail
      refine ano (jk rfl rfl rfl rfl rfl (aB hB.out)) rfl ?_
      exact ⟨⟨_,_,_,s.extract p k,k,_,_,rfl,by omega,by simp [ByteArray.size_extract];omega,by intro h;simp at h,by omega,by omega,fun _=>hne,fun _ _=>⟨rfl,rfl,rfl,rfl,rfl,hk1,hall.out,fun _=>HLK.out⟩⟩,aC HB1.out (ank _)⟩
     ·rw [hlt] at hlk
      have acv:Hid (∀ q (hq:q<s.size),p≤q→q<k+1→nI s[q]=true):=anc (fun q hq h1 h2=>by
       rcases Nat.lt_or_ge q k with h | h
       ·exact hall.out q hq h1 h
       ·obtain rfl:q=k:=by omega
        exact hlt)
      go_wp2_with fail
      refine (hlk.out).mono ?_
      rintro e w' ⟨rfl,rfl⟩
      go_wp2_with fail
      go_round
      case rel=>exact ⟨k+1,by omega,by omega,by go_num,acv⟩
      case measure=>simp [intOf];omega
    ·obtain rfl:k=s.size:=by omega
     obtain ⟨⟨k0,k1,k2,k3,k4⟩,f0,f1,f2,f3,f4⟩:=ay hB.out
     go_wp2_with fail
     refine ano (jk rfl rfl rfl rfl rfl (aB hB.out)) rfl ?_
     exact ⟨⟨_,_,_,s.extract p s.size,s.size,_,_,rfl,by omega,by simp [ByteArray.size_extract];omega,by intro h;simp at h,by omega,by omega,fun _=>hp,fun _ _=>⟨rfl,rfl,rfl,rfl,rfl,hk1,hall.out,fun h=>absurd h (Nat.lt_irrefl _)⟩⟩,aC HB1.out (ank _)⟩
 ·go_enter Tryz.func80,Tryz.ntmps80
  go_upto_region 1 with (fail)
  rw [←HW1.out]
  go_wp2_with fail
  refine (hT.out).mono ?_
  rintro e w2 ⟨⟨x,i,why,at_,rfl,hi,hx,hw⟩,hb2⟩
  have hB2:Hid (w2.heap[w.heap.size]?=some (.cells #[.int .i64 0,.string ⟨#[]⟩,.int .i64 0,.slice none 0 0,.int .i64 0] 86 (0,0))):=anc ((hb2.block _ (by omega)).trans hB.out)
  have HB2:=anc hb2
  clear hb2
  obtain ⟨⟨k0,k1,k2,k3,k4⟩,f0,f1,f2,f3,f4⟩:=ay hB2.out
  go_wp2_with fail
  refine ano (jk rfl rfl rfl rfl rfl (aB hB2.out)) rfl ?_
  exact ⟨⟨_,_,_,x,i,why,at_,rfl,hi,by omega,fun _=>hx,by omega,by omega,hw,fun _ hl=>by
   have WH:((s[p].toNat:Int))=34:=by simpa using qR
   unfold nI at hl
   rw [WH] at hl
   exact absurd hl (by decide)⟩,aC (HB1.out.trans (HB2.out.mono (by omega))) (ank _)⟩
theorem ku.cu {w:World} {S:Nat→Prop} {A:Option Addr} {l:List T} (h:ku w S A l) {i:Nat} {e:T} (he:l[i]?=some e) :
 ∃ b o A' c',A=some ⟨b,o,none⟩∧S b∧w.cell? ⟨b,o+i*5,none⟩=some (.int .i64 e.k)∧w.cell? ⟨b,o+i*5+1,none⟩=some (.string e.s) ∧
   w.cell? ⟨b,o+i*5+2,none⟩=some (.int .i64 e.n)∧w.cell? ⟨b,o+i*5+3,none⟩=some (.slice A' e.kids.length c')∧w.cell? ⟨b,o+i*5+4,none⟩=some (.int .i64 e.at_)∧e.kids.length≤c'∧ku w S A' e.kids:=by
 cases h with
 | nil A=>simp at he
 | mk b off l hn hlt A c h hk =>
   obtain ⟨h1,h2,h3,h4,h5,h6⟩:=h i e he
   exact ⟨b,off,A i,c i,rfl,hlt,h1,h2,h3,h4,h5,h6,hk i e he⟩
theorem jW {w:World} {base:Nat} {e:TypeId} {g cap m:Nat} {ps:List TP} (h:w.ownsRow base e 5 (.slice (some ⟨g,0,none⟩) m cap) m (aO ps))(hm:ps.length=m) {i:Nat} {p:TP} (hi:ps[i]?=some p) :
 w.cell? ⟨g,i*5,none⟩=some (.int .i64 p.1.k)∧w.cell? ⟨g,i*5+1,none⟩=some (.string p.1.s)∧w.cell? ⟨g,i*5+2,none⟩=some (.int .i64 p.1.n)∧w.cell? ⟨g,i*5+3,none⟩=some (.slice p.2.1 p.1.kids.length p.2.2)∧w.cell? ⟨g,i*5+4,none⟩=some (.int .i64 p.1.at_) ∧
  w.frozen? ⟨g,i*5+3,none⟩=false:=by
 have hlt:i<m:=by rw [←hm];exact (List.getElem?_eq_some_iff.1 hi).1
 obtain ⟨g1,g2,g3,g4,g5⟩:=mQ ps i p hi
 refine ⟨by rw [h.cellAt _ (by omega),g1],by rw [h.cellAt _ (by omega),g2],by rw [h.cellAt _ (by omega),g3],by rw [h.cellAt _ (by omega),g4],by rw [h.cellAt _ (by omega),g5],?_⟩
 rcases h.2 with ⟨h',_⟩ | ⟨g',cap',cur,h',_,hg,_⟩
 ·simp at h'
 ·simp only [Value.slice.injEq,Option.some.injEq,Addr.mk.injEq,and_true,true_and] at h'
  obtain ⟨rfl,rfl⟩:=h'
  exact Ie.frozen hg _
theorem ng (w0:World)(e:TypeId) {base:Nat} (h:base≤w0.heap.size):(w0.alloc (.cells #[] e)).ownsRow base e 5 (.slice (some ⟨w0.heap.size,0,none⟩) 0 0) 0 [] :=
 ⟨rfl,.inr ⟨w0.heap.size,0,#[],rfl,h,anm w0 _,ank _,by decide,rfl,rfl⟩⟩
theorem x8 (w0:World)(e:TypeId) {base q:Nat} (h:base≤w0.heap.size)(hq:w0.heap.size=q):(w0.alloc (.cells #[] e)).drew.ownsRow base e 5 (.slice (some ⟨q,0,none⟩) 0 0) 0 []:=by
 subst hq
 exact ng w0 e h
theorem alloc_at (w0:World)(o:Obj) {q:Nat} (hq:w0.heap.size=q):(w0.alloc o).drew.heap[q]?=some o:=by
 subst hq
 exact anm w0 o
theorem dV {fn:Func} {p q r:Tmp} (h:fn.results=#[.cell p 86,.tmp q,.tmp r]) {tmps:Array Value} {w:World} {g:Nat} {x0 x1 x2 x3 x4 a b:Value} {t:TypeId}
 (hp:tmps.getD p undef=.pointer (some ⟨g,0,none⟩))(hq:tmps.getD q undef=a)(hr:tmps.getD r undef=b)(hg:w.heap[g]?=some (.cells #[x0,x1,x2,x3,x4] t (0,0))):(results fn tmps).run Tryz.prog w=.ok (.tuple #[.agg #[x0,x1,x2,x3,x4],a,b]) w:=by
 have hp':tmps[p]?.getD undef=.pointer (some ⟨g,0,none⟩):=by simpa using hp
 have hq':tmps[q]?.getD undef=a:=by simpa using hq
 have hr':tmps[r]?.getD undef=b:=by simpa using hr
 have hl:=run_loadVar_row (P:=Tryz.prog) w g t 86 #[x0,x1,x2,x3,x4] (0,0) _ hg Tryz.underlying86 rfl (by show _=some 5;kernel_rfl)
 simp [results,h,hp',hq',hr',asAddr,hl]
theorem MK:(Tryz.prog.info? 86).map (fun i=>(i.zero,i.size,i.bytes))=some (some (.agg #[.int .i64 0,.string ByteArray.empty,.int .i64 0,.slice none 0 0,.int .i64 0]),5,64):=by kernel_rfl
inductive T.Deep:Nat→T→Prop
 | mk (d:Nat)(k:Int)(s:ByteArray)(n:Int)(l:List T)(a:Int)(h:∀ e∈l,T.Deep d e):T.Deep (d+1) (.mk k s n l a)
theorem T.Deep.mono {d d':Nat} {t:T} (h:t.Deep d)(hd:d≤d'):t.Deep d':=by
 induction h generalizing d' with
 | mk d k s n l a h ih =>
   obtain ⟨d2,rfl⟩:∃ d2,d'=d2+1:=⟨d'-1,by omega⟩
   exact .mk d2 k s n l a fun e he=>ih e he (by omega)
theorem T.Deep.leaf {d:Nat} (hd:0<d)(k:Int)(s:ByteArray)(n a:Int):T.Deep d (.mk k s n [] a):=by
 obtain ⟨d2,rfl⟩:∃ d2,d=d2+1:=⟨d-1,by omega⟩
 exact .mk d2 k s n [] a fun e he=>by cases he
def jX (ps:List TP):Prop:=∀ (q:Nat)(p:TP),ps[q]?=some p→∀ e∈p.1.kids,T.Deep (13-q) e
theorem jX.one:jX [(jB,none,0)]:=fun q p hp e he=>by
 match q,hp with
 | 0,hp =>
   obtain rfl:(jB,none,0)=p:=by simpa using hp
   cases he
theorem jX.push {ps:List TP} (h:jX ps)(j:Int):jX (ps++[((.mk 1 ⟨#[]⟩ 0 [] j:T),none,0)]):=fun q p hp e he=>by
 rcases Nat.lt_or_ge q ps.length with hq | hq
 ·rw [List.getElem?_append_left hq] at hp
  exact h q p hp e he
 ·rw [List.getElem?_append_right hq] at hp
  have:=anq hp
  obtain rfl:p=((.mk 1 ⟨#[]⟩ 0 [] j:T),none,0):=by simpa using this
  cases he
theorem jX.kid {ps:List TP} (h:jX ps) {m1:Nat} {tk tn ta:Int} {ts:ByteArray} {tl:List T} {A0 A1:Option Addr} {c0 c1:Nat} (hp:ps[m1]?=some ((.mk tk ts tn tl ta:T),A0,c0)) {x:T} (hx:x.Deep (13-m1)) :
 jX (ps.set m1 ((.mk tk ts tn (tl++[x]) ta:T),A1,c1)):=fun q p hq e he=>by
 by_cases e1:m1=q
 ·subst e1
  have hlt:m1<ps.length:=(List.getElem?_eq_some_iff.1 hp).1
  rw [List.getElem?_set_self hlt] at hq
  obtain rfl:=Option.some.inj hq
  rcases List.mem_append.1 (show e∈tl++[x] from he) with he | he
  ·exact h m1 _ hp e he
  ·obtain rfl:e=x:=by simpa using he
   exact hx
 ·rw [List.getElem?_set_ne e1] at hq
  exact h q p hq e he
theorem jX.take {ps:List TP} (h:jX ps)(n:Nat):jX (ps.take n):=fun q p hq e he=>by
 rcases Nat.lt_or_ge q n with h' | h'
 ·rw [List.getElem?_take_of_lt h'] at hq
  exact h q p hq e he
 ·rw [List.getElem?_take_eq_none h'] at hq;cases hq
theorem jX.top {ps:List TP} (h:jX ps) {m:Nat} {k n a:Int} {s:ByteArray} {l:List T} {A:Option Addr} {c:Nat} (hp:ps[m]?=some ((.mk k s n l a:T),A,c)):T.Deep (13-m+1) (.mk k s n l a) :=
 .mk _ k s n l a fun e he=>h m _ hp e he
theorem Qm (s:ByteArray):(pJ s).length≤122:=by
 unfold pJ
 cases h:V.okB ⟨2,0,s⟩
 ·simp
 ·have hs:=(IZ h rfl).2
  simp only [if_true]
  unfold qA
  have:=Ob s.data.toList
  have h2:s.data.toList.length=s.size:=by rw [Array.length_toList];rfl
  simp only [List.length_cons,List.length_append,List.length_nil]
  omega
theorem Jo:∀ (l:List (List UInt8))(b:Nat),(∀ x∈l,x.length≤b)→(Lib.joinTail [32] l).length≤l.length*(b+1)
 | [],b,_=>by simp [Lib.joinTail]
 | x::l,b,h=>by
   have h1:=h x List.mem_cons_self
   have h2:=Jo l b (fun z hz=>h z (List.mem_cons_of_mem _ hz))
   have e:Lib.joinTail [32] (x::l)=([32]++x)++Lib.joinTail [32] l:=by simp [Lib.joinTail]
   rw [e]
   have hm:(l.length+1)*(b+1)=l.length*(b+1)+(b+1):=Nat.succ_mul _ _
   simp only [List.length_append,List.length_cons,List.length_nil]
   omega
theorem TW (l:List (List UInt8))(b:Nat)(h:∀ x∈l,x.length≤b):(Lib.join l [32]).length≤l.length*(b+1):=by
 cases l with
 | nil=>simp [Lib.join_nil]
 | cons x l =>
   have h1:=h x List.mem_cons_self
   have h2:=Jo l b (fun z hz=>h z (List.mem_cons_of_mem _ hz))
   have hm:(l.length+1)*(b+1)=l.length*(b+1)+(b+1):=Nat.succ_mul _ _
   rw [Lib.join_cons]
   simp only [List.length_append,List.length_cons]
   omega
def PR (d:Nat)(t:T):Prop:=oM t∧oM (eU t)∧dH (eU t)=dH t∧(dH t).length≤700*5 ^ d
theorem Oy {d:Nat} {k:Int} {s:ByteArray} {n a:Int} {l:List T} (hk:k=2)(hs:s.size≤600)(n1:-9223372036854775808≤n)(n2:n≤9223372036854775807):PR d (.mk k s n l a):=by
 subst hk
 have e:eU (.mk 2 s n l a)=.mk 2 s 0 [] 0:=by unfold eU;rw [if_pos rfl]
 have p1:dH (.mk 2 s n l a)=s.data.toList:=by rw [dH,if_neg (by decide),if_pos rfl]
 have p2:dH (.mk 2 s 0 [] 0)=s.data.toList:=by rw [dH,if_neg (by decide),if_pos rfl]
 have h5:1≤5 ^ d:=Nat.one_le_pow _ _ (by decide)
 refine ⟨.mk _ _ _ _ _ n1 n2 (fun h=>by simp at h) (fun h=>by simp at h),?_,?_,?_⟩
 ·rw [e];exact .mk _ _ _ _ _ (by decide) (by decide) (fun h=>by simp at h) (fun h=>by simp at h)
 ·rw [e,p1,p2]
 ·rw [p1]
  have h2:s.data.toList.length=s.size:=by rw [Array.length_toList];rfl
  omega
theorem FN:∀ {l:List T},(aN l).2.1=0→∀ t∈l,(aI t).2.1=0
 | [],_,t,ht=>by cases ht
 | x::l,h,t,ht=>by
   rw [aN] at h
   by_cases hx:(aI x).2.1=0
   ·rw [if_pos hx] at h
    rcases List.mem_cons.1 ht with rfl | ht
    ·exact hx
    ·exact FN h t ht
   ·rw [if_neg hx] at h
    exact absurd h hx
theorem CU (l:List T):vG l=l.map eU:=by
 induction l with
 | nil=>rw [vG];rfl
 | cons x l ih=>rw [vG,ih];rfl
theorem iW (l:List T):gp l=l.map dH:=by
 induction l with
 | nil=>rw [gp];rfl
 | cons x l ih=>rw [gp,ih];rfl
theorem WI {d:Nat} {s:ByteArray} {n a:Int} {l:List T} (hd:d≤12)(n1:-9223372036854775808≤n)(n2:n≤9223372036854775807)(h0:0<l.length)(h4:l.length≤4)(hk:∀ t∈l,PR d t):PR (d+1) (.mk 1 s n l a):=by
 have e:eU (.mk 1 s n l a)=.mk 1 ⟨#[]⟩ 0 (vG l) 0:=by unfold eU;rw [if_neg (by decide),if_neg (by decide),if_neg (by decide)]
 have hpl:gp (vG l)=gp l:=by
  rw [CU,iW,iW,List.map_map]
  exact List.map_congr_left fun t ht=>(hk t ht).2.2.1
 have hlen:(gp l).length=l.length:=lF l
 have hj:=TW (gp l) (700*5 ^ d) (fun x hx=>by
  rw [iW] at hx
  obtain ⟨t,ht,rfl⟩:=List.mem_map.1 hx
  exact (hk t ht).2.2.2)
 rw [hlen] at hj
 have h5:1≤5 ^ d:=Nat.one_le_pow _ _ (by decide)
 have h12:5 ^ d≤5 ^ 12:=Nat.pow_le_pow_right (by decide) hd
 have acw:(5:Nat) ^ 12=244140625:=by decide
 have hm:l.length*(700*5 ^ d+1)≤4*(700*5 ^ d+1):=Nat.mul_le_mul_right _ h4
 have hcl:(vG l).length=l.length:=by rw [CU,List.length_map]
 refine ⟨.mk _ _ _ _ _ n1 n2 (fun _=>⟨by omega,by omega⟩) (fun _ t ht=>(hk t ht).1),?_,?_,?_⟩
 ·rw [e]
  refine .mk _ _ _ _ _ (by decide) (by decide) (fun _=>⟨by omega,by rw [hpl];omega⟩) (fun _ t ht=>?_)
  rw [CU] at ht
  obtain ⟨u,hu,rfl⟩:=List.mem_map.1 ht
  exact (hk u hu).2.1
 ·rw [e,dH,dH,if_pos rfl,if_pos rfl,hpl]
 ·rw [dH,if_pos rfl,List.length_cons,List.length_append,Nat.pow_succ]
  simp only [List.length_cons,List.length_nil]
  omega
theorem Zr:∀ t:T,∀ d,d≤13→t.Good→t.Deep d→(aI t).2.1=0→PR d t:=T.ind (fun k s n l a ih d hd hg hdp hr=>by
 obtain ⟨_,_,_,_,_,n1,n2,hs6,hs4,xH,hgk⟩:=hg
 by_cases h2:k=2
 ·exact Oy h2 hs6 n1 n2
 ·by_cases h3:k=3
  ·subst h3
   have e:eU (.mk 3 s n l a)=.mk 3 ⟨#[]⟩ n [] 0:=by unfold eU;rw [if_neg (by decide),if_pos rfl]
   have p:∀ s l a,dH (.mk 3 s n l a)=Lib.itoa n:=fun s l a=>by rw [dH,if_neg (by decide),if_neg (by decide),if_pos rfl]
   have h5:1≤5 ^ d:=Nat.one_le_pow _ _ (by decide)
   refine ⟨.mk _ _ _ _ _ n1 n2 (fun h=>by simp at h) (fun h=>by simp at h),?_,?_,?_⟩
   ·rw [e];exact .mk _ _ _ _ _ n1 n2 (fun h=>by simp at h) (fun h=>by simp at h)
   ·rw [e,p,p]
   ·rw [p]
    have:=Lib.itoa_length_le n n1 n2
    omega
  ·by_cases h4:k=4
   ·subst h4
    have e:eU (.mk 4 s n l a)=.mk 4 s 0 [] 0:=by unfold eU;rw [if_neg (by decide),if_neg (by decide),if_pos rfl]
    have p:∀ n l a,dH (.mk 4 s n l a)=pJ s:=fun n l a=>by rw [dH,if_neg (by decide),if_neg (by decide),if_neg (by decide),if_pos rfl]
    have h5:1≤5 ^ d:=Nat.one_le_pow _ _ (by decide)
    refine ⟨.mk _ _ _ _ _ n1 n2 (fun h=>by simp at h) (fun h=>by simp at h),?_,?_,?_⟩
    ·rw [e];exact .mk _ _ _ _ _ (by decide) (by decide) (fun h=>by simp at h) (fun h=>by simp at h)
    ·rw [e,p,p]
    ·rw [p]
     have:=Qm s
     omega
   ·by_cases h1:k=1
    ·subst h1
     cases hdp with
     | mk d' _ _ _ _ _ hkd =>
       cases l with
       | nil=>rw [uj] at hr;simp at hr
       | cons x ks =>
         rw [pF] at hr
         by_cases hx:x.k=2∧dB x.s.toList≠0
         ·rw [if_pos hx] at hr
          by_cases hl:ks.length=dB x.s.toList
          ·rw [if_pos hl] at hr
           by_cases hrk:(aN ks).2.1=0
           ·have hc:=Gj x.s
            refine WI (by omega) n1 n2 (by simp) (by simp only [List.length_cons];omega) (fun t ht=>?_)
            rcases List.mem_cons.1 ht with rfl | ht
            ·have hgx:=hgk t List.mem_cons_self
             obtain ⟨_,_,_,_,_,g1,g2,g3,_,_,_⟩:=hgx
             exact Oy hx.1 g3 g1 g2
            ·exact ih t (List.mem_cons_of_mem _ ht) d' (by omega) (hgk t (List.mem_cons_of_mem _ ht)) (hkd t (List.mem_cons_of_mem _ ht)) (FN hrk t ht)
           ·rw [if_neg hrk] at hr
            exact absurd hr hrk
          ·rw [if_neg hl] at hr
           simp at hr
         ·rw [if_neg hx] at hr
          simp at hr
    ·rw [xB h1 h2 h3 h4] at hr
     simp at hr)
theorem Qn:T.Good aH:=.mk _ _ _ _ _ (by decide) (by decide) (by decide) (by decide) (by simp) (fun e he=>by cases he)
def PK (b:Nat)(t:T):Prop:=oM (eU t)∧(dH (eU t)).length≤b
theorem PK.mono {b b':Nat} {t:T} (h:PK b t)(hb:b≤b'):PK b' t:=⟨h.1,anv h.2 hb⟩
def jC (l:List (List UInt8)):Nat:=(l.map fun x=>x.length+1).sum
theorem x9:∀ l:List (List UInt8),(Lib.joinTail [32] l).length≤jC l
 | []=>by simp [Lib.joinTail]
 | x::l=>by
   have h:=x9 l
   have e:Lib.joinTail [32] (x::l)=([32]++x)++Lib.joinTail [32] l:=by simp [Lib.joinTail]
   rw [e]
   simp only [jC,List.map_cons,List.sum_cons,List.length_append,List.length_cons,List.length_nil] at h ⊢
   omega
theorem yg (l:List (List UInt8)):(Lib.join l [32]).length≤jC l:=by
 cases l with
 | nil=>simp [Lib.join_nil]
 | cons x l =>
   have h:=x9 l
   rw [Lib.join_cons]
   simp only [jC,List.map_cons,List.sum_cons,List.length_append] at h ⊢
   omega
theorem sH (a b:List (List UInt8)):jC (a++b)=jC a+jC b:=by simp [jC]
theorem GN (l:List (List UInt8))(b:Nat)(h:∀ x∈l,x.length≤b):jC l≤l.length*(b+1):=by
 induction l with
 | nil=>simp [jC]
 | cons x l ih =>
   have h1:=h x List.mem_cons_self
   have h2:=ih fun y hy=>h y (List.mem_cons_of_mem _ hy)
   have hm:(l.length+1)*(b+1)=l.length*(b+1)+(b+1):=Nat.succ_mul _ _
   simp only [jC,List.map_cons,List.sum_cons,List.length_cons] at h2 ⊢
   omega
theorem FO (s:ByteArray)(n a:Int)(l:List T):eU (.mk 1 s n l a)=kP (l.map eU):=xQ (t:=.mk 1 s n l a) rfl
theorem pO (l:List T):dH (kP l)=40::(Lib.join (gp l) [32]++[41]):=by unfold kP;rw [dH,if_pos rfl]
theorem Oz {s:ByteArray} {n a:Int} {l:List T} {m b1 b2:Nat} (hl:l.length≤600)(h1:∀ t∈l.take m,PK b1 t)(h2:∀ t∈l.drop m,PK b2 t)(hd:(l.drop m).length≤2)(hb:600*(b1+1)+2*(b2+1)+2≤100000000000000) :
 PK (600*(b1+1)+2*(b2+1)+2) (.mk 1 s n l a):=by
 have hall:∀ t∈l,oM (eU t):=fun t ht=>by
  rw [←List.take_append_drop m l] at ht
  rcases List.mem_append.1 ht with ht | ht
  ·exact (h1 t ht).1
  ·exact (h2 t ht).1
 have hj:=yg (gp (l.map eU))
 have hs:jC (gp (l.map eU))≤600*(b1+1)+2*(b2+1):=by
  have e:gp (l.map eU)=gp ((l.take m).map eU)++gp ((l.drop m).map eU):=by
   rw [iW,iW,iW,←List.map_append,←List.map_append,List.take_append_drop]
  rw [e,sH]
  have g1:=GN (gp ((l.take m).map eU)) b1 (fun x hx=>by
   rw [iW,List.map_map] at hx
   obtain ⟨t,ht,rfl⟩:=List.mem_map.1 hx
   exact (h1 t ht).2)
  have g2:=GN (gp ((l.drop m).map eU)) b2 (fun x hx=>by
   rw [iW,List.map_map] at hx
   obtain ⟨t,ht,rfl⟩:=List.mem_map.1 hx
   exact (h2 t ht).2)
  rw [lF,List.length_map] at g1 g2
  have k1:(l.take m).length*(b1+1)≤600*(b1+1):=Nat.mul_le_mul_right _ (by rw [List.length_take];omega)
  have k2:(l.drop m).length*(b2+1)≤2*(b2+1):=Nat.mul_le_mul_right _ hd
  omega
 rw [PK,FO,pO]
 refine ⟨.mk _ _ _ _ _ (by decide) (by decide) (fun _=>⟨by rw [List.length_map];exact hl,by omega⟩) (fun _ e he=>?_),?_⟩
 ·obtain ⟨t,ht,rfl⟩:=List.mem_map.1 he
  exact hall t ht
 ·simp only [List.length_cons,List.length_append,List.length_nil]
  omega
theorem GR {t:T} (hk:t.k=2)(hg:t.Good):PK 600 t:=by
 obtain ⟨k,s,n,l,a⟩:=t
 obtain ⟨_,_,_,_,_,_,_,hs,_,_,_⟩:=hg
 rw [PK,su hk]
 refine ⟨.mk _ _ _ _ _ (by decide) (by decide) (fun h=>by simp at h) (fun h=>by simp at h),?_⟩
 have p2:dH (fE s)=s.data.toList:=by unfold fE;rw [dH,if_neg (by decide),if_pos rfl]
 show (dH (fE s)).length≤600
 rw [p2,Array.length_toList]
 exact hs
theorem TY {t:T} (h:eP t=true)(hg:t.Good):PK 362000 t:=by
 obtain ⟨k,s,n,l,a⟩:=t
 obtain ⟨_,_,_,_,_,_,_,hs,_,hl,hk⟩:=hg
 unfold eP at h
 simp only [T.k,T.kids,Bool.and_eq_true,beq_iff_eq,List.all_eq_true] at h
 obtain ⟨rfl,hat⟩:=h
 refine (Oz (m:=l.length) (b1:=600) (b2:=0) hl (fun t ht=>?_) (fun t ht=>by simp at ht) (by simp) (by decide)).mono (by decide)
 have ht':=List.mem_of_mem_take ht
 exact GR (hat t ht') (hk t ht')
theorem OA {t:T} {d:Nat} (hd:d≤13)(hg:t.Good)(hdp:t.Deep d)(hr:(aI t).2.1=0):PK (700*5 ^ d) t:=by
 obtain ⟨_,h2,h3,h4⟩:=Zr t d hd hg hdp hr
 exact ⟨h2,by rw [h3];exact h4⟩
theorem FP {d:Nat} {k:Int} {s:ByteArray} {n:Int} {l:List T} {a:Int} (h:T.Deep (d+1) (.mk k s n l a)):∀ e∈l,T.Deep d e:=by
 cases h;assumption
theorem Jp {d:Nat} {t:T} (h:T.Deep d t):∃ d',d=d'+1:=by cases h;exact ⟨_,rfl⟩
theorem Zt {t:T} {d:Nat} (hd:d+1≤13)(hc:aW t=true)(hg:t.Good)(hdp:t.Deep (d+1))(hr:(aI (t.kids.getD 1 aH)).2.1=0):PK (700*5 ^ d+700) t:=by
 obtain ⟨k,s,n,l,a⟩:=t
 obtain ⟨_,_,_,_,_,_,_,hs,_,hl,hk⟩:=hg
 have hdk:=FP hdp
 unfold aW at hc
 simp only [T.k,T.kids,Bool.and_eq_true,beq_iff_eq] at hc hr
 obtain ⟨rfl,h2,h3⟩:=hc
 match l,h2 with
 | [x,y],_ =>
   have h1:=GR (show x.k=2 from h3) (hk x (by simp))
   have hr':(aI y).2.1=0:=hr
   have g1:=OA (by omega) (hk y (by simp)) (hdk y (by simp)) hr'
   rw [PK,FO,pO]
   have h5:5 ^ d≤5 ^ 12:=Nat.pow_le_pow_right (by decide) (by omega)
   have acw:(5:Nat) ^ 12=244140625:=by decide
   have hj:=yg (gp ([x,y].map eU))
   have e:jC (gp ([x,y].map eU))=(dH (eU x)).length+1+((dH (eU y)).length+1):=by simp [gp,jC]
   have q1:=h1.2
   have q2:=g1.2
   refine ⟨.mk _ _ _ _ _ (by decide) (by decide) (fun _=>⟨by simp,by omega⟩) (fun _ e he=>?_),?_⟩
   ·simp only [List.map_cons,List.map_nil,List.mem_cons,List.not_mem_nil,or_false] at he
    rcases he with rfl | rfl
    ·exact h1.1
    ·exact g1.1
   ·simp only [List.length_cons,List.length_append,List.length_nil]
    omega
def PB (d:Nat):Nat:=28000*5 ^ d+220000000*(2 ^ d-1)
theorem WJ {d:Nat}:600*(140*5 ^ d+362000+1)+2*(PB d+1)+2≤PB (d+1):=by
 unfold PB
 rw [Nat.pow_succ,Nat.pow_succ]
 have h5:1≤5 ^ d:=Nat.one_le_pow _ _ (by decide)
 have h3:1≤2 ^ d:=Nat.one_le_pow _ _ (by decide)
 omega
theorem TZ {d:Nat} (h:d≤12):PB d≤8000000000000:=by
 unfold PB
 have h5:5 ^ d≤5 ^ 12:=Nat.pow_le_pow_right (by decide) h
 have h3:2 ^ d≤2 ^ 12:=Nat.pow_le_pow_right (by decide) h
 have e5:(5:Nat) ^ 12=244140625:=by decide
 have e3:(2:Nat) ^ 12=4096:=by decide
 omega
theorem CV:∀ (l:List T)(s:eY),(bM l 0 s).2.1=0→∀ t∈l,(aX t s).2.1=0
 | [],_,_,t,ht=>by cases ht
 | x::l,s,h,t,ht=>by
   rw [bM] at h
   have h1:=(lH l (fun t _=>gW t) _ h).1
   simp only at h
   have h2:(aX x s).2.1=0:=by rw [←h1];exact h
   have h3:=(gW x s h2).1
   rcases List.mem_cons.1 ht with rfl | ht
   ·exact h2
   ·rw [h3] at h
    exact CV l s h t ht
theorem WL {x:T} {w:List UInt8} (h:eU x=fE ⟨w.toArray⟩)(hw:w.length≤600):PK 600 x:=by
 rw [PK,h]
 refine ⟨.mk _ _ _ _ _ (by decide) (by decide) (fun h=>by simp at h) (fun h=>by simp at h),?_⟩
 have p2:dH (fE ⟨w.toArray⟩)=w:=by unfold fE;rw [dH,if_neg (by decide),if_pos rfl]
 rw [p2]
 exact hw
theorem WM:∀ t:T,∀ d,d≤13→t.Good→t.Deep d→(aX t (0,0)).2.1=0→PK (PB d) t:=T.ind fun k s n l a ih d hd hg hdp h=>by
 obtain ⟨d,rfl⟩:=Jp hdp
 have hdk:=FP hdp
 obtain ⟨_,_,_,_,_,_,_,_,_,xH,hgk⟩:=hg
 rw [aX] at h
 simp only at h
 have hall:=xP (iR (.mk k s n l a)).toList l
 rw [show bY (iR (.mk k s n l a)).toList l=fA (.mk k s n l a) from rfl] at hall
 generalize fA (.mk k s n l a)=kd at *
 rw [jg] at h
 obtain ⟨h1,_,_⟩:=lH (l.drop (l.length-aJ kd)) (fun t _=>gW t) _ h
 have h':=h
 rw [h1] at h'
 obtain ⟨b1,b2,b3,b4,b5,b6⟩:=Ci h'
 rw [b1] at h
 have hpl:=CV _ _ h
 have hmax:=TZ (d:=d) (by omega)
 have h5:5 ^ d≤5 ^ 12:=Nat.pow_le_pow_right (by decide) (by omega)
 have acw:(5:Nat) ^ 12=244140625:=by decide
 have key:∀ w:List UInt8,∀ kn:Nat,(iR (.mk k s n l a)).toList=w→w≠[]→w.length≤600→kn≤2→kn≤l.length→(∀ x r,l=x::r→∀ t∈r.take (l.length-kn-1),PK (140*5 ^ d+362000) t)→(∀ t∈l.drop (l.length-kn),PK (PB d) t)→PK (PB (d+1)) (.mk k s n l a):=by
  intro w kn hw hw0 hwl hk2 hkl hm hdr
  obtain ⟨hk1,x,r,hlx,hx⟩:=Fp hw hw0
  simp only [T.k,T.kids] at hk1 hlx
  subst hk1
  refine (Oz (m:=l.length-kn) (b1:=140*5 ^ d+362000) (b2:=PB d) xH (fun t ht=>?_) (fun t ht=>?_) (by rw [List.length_drop];omega) (by omega)).mono WJ
  ·have hmr:=hm x r hlx
   rw [hlx] at ht hmr
   cases hq:(x::r).length-kn with
   | zero=>rw [hq] at ht;simp at ht
   | succ q =>
     rw [hq,List.take_succ_cons] at ht
     rw [hq] at hmr
     rcases List.mem_cons.1 ht with rfl | ht
     ·exact (WL hx hwl).mono (by omega)
     ·exact hmr t (by simpa using ht)
  ·exact hdr t ht
 have hdr:∀ t∈l.drop (l.length-aJ kd),PK (PB d) t:=fun t ht=>by
  have Yz:=List.mem_of_mem_drop ht
  exact ih t Yz d (by omega) (hgk t Yz) (hdk t Yz) (hpl t ht)
 have hat:∀ {t:T},eP t=true→t∈l→PK (140*5 ^ d+362000) t:=fun ha ht=>(TY ha (hgk _ ht)).mono (by omega)
 rcases hall with e | ⟨e,hw,hl,ha⟩ | ⟨e,hw,hl⟩ | ⟨e,hw,hl,ha⟩ | ⟨e,hw,hl,ha,hb⟩ | ⟨e,hw,hl⟩ | ⟨e,hw,hl⟩ | ⟨e,hw,hl,ha,hb⟩
 ·omega
 ·subst e
  refine key _ (aJ 1) hw (by decide) (by decide) (by decide) (by rw [show aJ 1=0 from rfl];omega) (fun x r hx t ht=>?_) hdr
  subst hx
  match r,hl with
  | [y],_ =>
    obtain rfl:t=y:=by simpa [aJ] using ht
    exact (GR (by simpa using ha) (hgk t (by simp))).mono (by omega)
 ·subst e
  refine key _ 2 hw (by decide) (by decide) (by decide) (by omega) (fun x r hx t ht=>?_) (fun t ht=>?_)
  ·subst hx
   match r,hl with
   | [y,z],_=>simp at ht
  ·match l,hl with
   | [x,y,z],_ =>
     simp only [List.length_cons,List.length_nil,List.drop_succ_cons,List.drop_zero,List.mem_cons,List.not_mem_nil,or_false] at ht
     rcases ht with rfl | rfl
     ·refine (OA (by omega) (hgk t (by simp)) (hdk t (by simp)) (by simpa using b2 rfl)).mono ?_
      unfold PB
      omega
     ·exact hdr t (by simp [aJ])
 ·subst e
  refine key _ (aJ 3) hw (by decide) (by decide) (by decide) (by rw [show aJ 3=1 from rfl];omega) (fun x r hx t ht=>?_) hdr
  subst hx
  have hm:bT (x::r) 1=r.take ((x::r).length-aJ 3-1):=by
   unfold bT
   rw [List.drop_succ_cons,List.drop_zero]
   rfl
  rw [←hm] at ht
  have htl:t∈x::r:=List.mem_of_mem_drop (List.mem_of_mem_take ht)
  obtain ⟨d',rfl⟩:=Jp (hdk t htl)
  refine (Zt (by omega) (List.all_eq_true.1 ha t ht) (hgk t htl) (hdk t htl) (b3 rfl t ht)).mono ?_
  rw [Nat.pow_succ]
  omega
 ·subst e
  refine key _ (aJ 4) hw (by decide) (by decide) (by decide) (by rw [show aJ 4=2 from rfl];omega) (fun x r hx t ht=>?_) hdr
  subst hx
  match r,hl with
  | [y1,y2,y3,y4],_ =>
    have:t=y1∨t=y2:=by simpa [aJ] using ht
    rcases this with rfl | rfl
    ·exact hat (by simpa using ha) (by simp)
    ·exact hat (by simpa using hb) (by simp)
 ·subst e
  refine key _ (aJ 5) hw (by decide) (by decide) (by decide) (by rw [show aJ 5=2 from rfl];omega) (fun x r hx t ht=>?_) hdr
  subst hx
  rw [show (x::r).length-aJ 5-1=0 by rw [hl];rfl] at ht
  simp at ht
 ·subst e
  refine key _ (aJ 6) hw (by decide) (by decide) (by decide) (by rw [show aJ 6=1 from rfl];omega) (fun x r hx t ht=>?_) hdr
  subst hx
  rw [show (x::r).length-aJ 6-1=0 by rw [hl];rfl] at ht
  simp at ht
 ·subst e
  refine key _ (aJ 7) hw (by decide) (by decide) (by decide) (by rw [show aJ 7=1 from rfl];omega) (fun x r hx t ht=>?_) hdr
  subst hx
  match r with
  | []=>simp at hl
  | y::r =>
    have e:(x::y::r).length-aJ 7-1=r.length-1+1:=by simp [aJ] at hl ⊢;omega
    rw [e,List.take_succ_cons] at ht
    rcases List.mem_cons.1 ht with rfl | ht
    ·exact hat (by simpa using ha) (by simp)
    ·have hm:t∈bT (x::y::r) 2:=by
      unfold bT
      rw [List.drop_succ_cons,List.drop_succ_cons,List.drop_zero]
      rw [show (x::y::r).length-1-2=r.length-1 by simp]
      exact ht
     exact hat (Gz (List.all_eq_true.1 hb t hm)).1 (by simp [List.mem_of_mem_take ht])
def sJ:Value→Nat
 | .string b=>if b.size=0 then 1 else 0
 | _=>0
def Jq (m:Nat)(l:List UInt8):List UInt8:=if m=0∧l≠[] then l else Lib.decDigits m++l
theorem Qo (m:Nat)(l:List UInt8)(h:0<m∨l=[]):Jq (m / 10) (UInt8.ofNat (48+m % 10)::l)=Jq m l:=by
 unfold Jq
 have h1:¬(m=0∧l≠[]):=by rintro ⟨rfl,h2⟩;rcases h with h | h;omega;exact h2 h
 rw [if_neg h1]
 by_cases h2:m<10
 ·have e1:m / 10=0:=by omega
  have e2:m % 10=m:=by omega
  rw [e1,e2,if_pos ⟨rfl,by simp⟩,Lib.decDigits,dif_pos h2]
  rfl
 ·have e1:m / 10≠0:=by omega
  rw [if_neg (fun h=>e1 h.1),Lib.decDigits.eq_1 m,dif_neg h2,List.append_assoc]
  rfl
theorem Eh (c:UInt8)(l:List UInt8):sJ (.string ⟨(c::l).toArray⟩)=0:=by
 show (if (ByteArray.mk (c::l).toArray).size=0 then 1 else 0)=0
 exact if_neg (by show ¬(c::l).length=0;simp)
theorem WN:∀ i:Fin 10,(ByteArray.mk #[48,49,50,51,52,53,54,55,56,57]).extract i.val (i.val+1)=⟨#[UInt8.ofNat (48+i.val)]⟩:=by decide +kernel
theorem OB (m:Nat)(l:List UInt8):(ByteArray.mk #[48,49,50,51,52,53,54,55,56,57]).extract (m % 10) (m % 10+1)++⟨l.toArray⟩=⟨(UInt8.ofNat (48+m % 10)::l).toArray⟩:=by
 rw [WN ⟨m % 10,by omega⟩]
 apply ByteArray.ext
 simp
theorem CW (n:Int)(h0:-9223372036854775808≤n)(h1:n≤9223372036854775807)(w:World) :
 Calls Tryz.prog 128 #[.int .i64 n] w fun e w'=>e=.returned (.string ⟨(Lib.itoa n).toArray⟩)∧w'=w:=by
 obtain ⟨M,hM⟩:∃ M:Nat,M=n.natAbs:=⟨_,rfl⟩
 have HM:=anc hM
 have hMb:M<18446744073709551616:=by omega
 clear hM
 go_enter Tryz.func128,Tryz.ntmps128
 go_upto_if 9 with (fail)
 go_cut [3] (fun s3 wx=>s3=.int .u64 M∧wx=w)
 case first =>
  by_cases hn:n<0
  ·have e1:Hid (IntKind.u64.wrap (IntKind.u64.wrap (-(n+1))+1)=M):=anc (by rw [IntKind.wrap_u64,IntKind.wrap_u64,HM.out];omega)
   go_wp2
   go_meet
   exact ⟨by first | (with_reducible rfl) | exact congrArg (Value.int .u64) e1.out | exact congrArg (Value.int .u64) (by have:=HM.out;omega),rfl⟩
  ·have e1:Hid (IntKind.u64.wrap n=M):=anc (by rw [IntKind.wrap_u64,HM.out];omega)
   go_wp2
   go_meet
   exact ⟨by first | (with_reducible rfl) | exact congrArg (Value.int .u64) e1.out | exact congrArg (Value.int .u64) (by have:=HM.out;omega),rfl⟩
 case rest =>
 obtain ⟨rfl,hwc⟩:=hcut
 obtain rfl:w=wc:=hwc.symm
 clear hwc
 go_wp2_with fail
 go_loop [3,4] (fun u s=>∃ (m:Nat)(l:List UInt8),u=.int .u64 m∧s=.string ⟨l.toArray⟩∧m<18446744073709551616∧Hid (Jq m l=Lib.decDigits M)) (fun u s=>2*(intOf u).toNat+sJ s)
 case atStart=>exact ⟨M,[],rfl,rfl,hMb,anc (by unfold Jq;rw [if_neg (by simp),List.append_nil])⟩
 case round =>
  obtain ⟨m,l,rfl,rfl,hm,hz⟩:=hrel
  have hll:l.length≤20:=by
   have h2:=congrArg List.length hz.out
   rw [Lib.decDigits_length] at h2
   have h3:=Lib.nDigits_le20 M hMb
   have h4:l.length≤(Jq m l).length:=by unfold Jq;split <;> simp
   omega
  by_cases hgo:0<m∨l=[]
  ·have hst:=anc ((Qo m l hgo).trans hz.out)
   clear hz
   have h10:(m:Int) % 10<10:=by omega
   have h11:0≤(m:Int) % 10:=by omega
   have hmin:min (m % 10+1) 10=m % 10+1:=by omega
   have afu:Hid (m / 10<18446744073709551616):=anc (by omega)
   by_cases hm0:0<m
   ·have d1:decide (0<(m:Int))=true:=decide_eq_true (by omega)
    go_wp2
    go_round
    case rel=>exact ⟨m / 10,UInt8.ofNat (48+m % 10)::l,by go_num,by rw [OB],afu.out,hst⟩
    case measure =>
     show 2*(intOf (.int .u64 ((m:Int) / 10))).toNat+sJ (.string (_++_))<2*(intOf (.int .u64 (m:Int))).toNat+sJ _
     rw [OB,Eh]
     simp only [intOf]
     omega
   ·obtain rfl:m=0:=by omega
    obtain rfl:l=[]:=by rcases hgo with h | h;omega;exact h
    go_wp2
    go_round
    case rel=>exact ⟨0,[48],rfl,rfl,by decide,hst⟩
    case measure=>simp [intOf,sJ];decide
  ·obtain rfl:m=0:=by omega
   have hl:l≠[]:=fun h=>hgo (.inr h)
   have hf:Hid (l=Lib.decDigits M):=anc (by have:=hz.out;unfold Jq at this;rwa [if_pos ⟨rfl,hl⟩] at this)
   have hsz:l.isEmpty=false:=by cases l with | nil=>exact absurd rfl hl | cons a l=>rfl
   clear hz hgo
   by_cases hn:n<0
   ·have hi:Hid (Lib.itoa n=45::l):=anc (by unfold Lib.itoa;rw [if_pos hn,hf.out,HM.out])
    go_wp2
    go_ret
    refine ⟨?_,rfl⟩
    rw [hi.out]
    show Ending.returned (Value.string (_++_))=_
    have e:(ByteArray.mk #[45])++⟨l.toArray⟩=⟨(45::l).toArray⟩:=by apply ByteArray.ext;simp
    rw [e]
   ·have hi:Hid (Lib.itoa n=l):=anc (by unfold Lib.itoa;rw [if_neg hn,hf.out,HM.out];congr 1;omega)
    go_wp2
    go_ret
    exact ⟨by rw [hi.out];rfl,rfl⟩
theorem ML (k n:Int)(s:ByteArray)(w:World) :
 Calls Tryz.prog 169 #[.agg #[.int .i64 k,.int .i64 n,.string s]] w fun e w' =>
  e=.returned (.bool (V.okB ⟨k,n,s⟩))∧w.alloc (.cells #[.int .i64 k,.int .i64 n,.string s] 114)=w':=by
 by_cases h1:(k==1)=true
 ·have h12:(k==2)=false:=by simp at h1 ⊢;omega
  by_cases he:s.toList=[]
  ·have hr:V.okB ⟨k,n,s⟩=true:=by simp [V.okB,h1,he]
   have he2:s.toList.isEmpty=true:=by rw [he];rfl
   rw [hr]
   clear hr
   go_enter Tryz.func169,Tryz.ntmps169
   go_wp2
   go_ret
   exact ⟨rfl,rfl⟩
  ·have he2:s.toList.isEmpty=false:=by simpa using he
   have hr:V.okB ⟨k,n,s⟩=false:=by simp [V.okB,h12,he]
   rw [hr]
   clear hr he
   go_enter Tryz.func169,Tryz.ntmps169
   go_wp2
   go_ret
   exact ⟨rfl,rfl⟩
 ·have h1':(k==1)=false:=by simpa using h1
  clear h1
  by_cases h2:(k==2)=true
  ·by_cases h3:n=0
   ·subst h3
    have hr:V.okB ⟨k,0,s⟩=decide ((s.size:Int)≤40):=by simp [V.okB,h1',h2]
    rw [hr]
    clear hr
    go_enter Tryz.func169,Tryz.ntmps169
    go_wp2
    go_ret
    exact ⟨rfl,rfl⟩
   ·have hr:V.okB ⟨k,n,s⟩=false:=by simp [V.okB,h1',h3]
    have h3':(n==0)=false:=by simpa using h3
    rw [hr]
    clear hr h3
    go_enter Tryz.func169,Tryz.ntmps169
    go_wp2
    go_ret
    exact ⟨rfl,rfl⟩
  ·have h2':(k==2)=false:=by simpa using h2
   clear h2
   have hr:V.okB ⟨k,n,s⟩=false:=by simp [V.okB,h1',h2']
   rw [hr]
   clear hr
   go_enter Tryz.func169,Tryz.ntmps169
   go_wp2
   go_ret
   exact ⟨rfl,rfl⟩
theorem Jr:∀ i:Fin 16,(ByteArray.mk #[48,49,50,51,52,53,54,55,56,57,97,98,99,100,101,102]).extract i.val (i.val+1)=⟨#[hexD i.val]⟩:=by decide +kernel
theorem acx (cs:List UInt8)(c:UInt8):(ByteArray.mk cs.toArray)++⟨#[92]⟩++(ByteArray.mk #[48,49,50,51,52,53,54,55,56,57,97,98,99,100,101,102]).extract (c.toNat / 16) (c.toNat / 16+1)++(ByteArray.mk #[48,49,50,51,52,53,54,55,56,57,97,98,99,100,101,102]).extract (c.toNat % 16) (c.toNat % 16+1)=⟨(cs++[92,hexD (c.toNat / 16),hexD (c.toNat % 16)]).toArray⟩:=by
 rw [Jr ⟨c.toNat / 16,by have:=c.toNat_lt;omega⟩,Jr ⟨c.toNat % 16,by omega⟩]
 apply ByteArray.ext
 simp
theorem Js (s:ByteArray)(j:Nat)(h:j<s.size):s.extract j (j+1)=⟨#[s[j]]⟩:=by
 apply ByteArray.ext
 rw [ByteArray.data_extract]
 apply Array.ext'
 have h':j<s.data.toList.length:=h
 simp [List.extract,List.drop_eq_getElem_cons h']
 rfl
theorem acy (cs:List UInt8)(s:ByteArray)(j:Nat)(h:j<s.size):(ByteArray.mk cs.toArray)++s.extract j (j+1)=⟨(cs++[s[j]]).toArray⟩:=by
 rw [Js s j h]
 apply ByteArray.ext
 simp
theorem Qp (s:ByteArray)(hs:s.size≤100)(w:World) :
 Calls Tryz.prog 170 #[.string s] w fun e w'=>e=.returned (.string ⟨(qA s.data.toList).toArray⟩)∧Below w.heap.size w w':=by
 go_enter Tryz.func170,Tryz.ntmps170
 go_wp2_with fail
 go_loopw [3,4] (fun o i wr=>∃ (j:Nat)(cs:List UInt8),j≤s.size∧i=.int .i64 j∧o=.string ⟨cs.toArray⟩∧Hid (cs=34::(s.data.toList.take j).flatMap qB)∧Below w.heap.size w wr) (fun _ i _=>s.size-(intOf i).toNat)
 case atStart=>exact ⟨0,[34],Nat.zero_le _,rfl,rfl,anc rfl,anl _ _⟩
 case round =>
  obtain ⟨j,cs,hj,rfl,rfl,hcs,hb⟩:=hrel
  have HB:=anc hb
  have hlen:cs.length≤400:=by
   rw [hcs.out]
   have:=Ob (s.data.toList.take j)
   have h2:(s.data.toList.take j).length≤j:=List.length_take_le _ _
   simp only [List.length_cons]
   omega
  clear hb
  by_cases hlt:j<s.size
  ·have hst:Hid (cs++qB s[j]=34::(s.data.toList.take (j+1)).flatMap qB):=anc (by rw [hcs.out,SA s j hlt];rfl)
   clear hcs
   obtain ⟨pc,hpc⟩:∃ pc,pc=lD s[j]:=⟨_,rfl⟩
   have Ea:=anc hpc
   clear hpc
   have hi0:(0:Int)≤(j:Int):=by omega
   have hi1:(j:Int)<(s.size:Int):=by omega
   go_upto_region 6 with (fail)
   go_cut [28] (fun s28 wx=>s28=.bool (!pc)∧wx=wr)
   case first =>
    by_cases p1:(s[j].toNat:Int)<32
    ·obtain rfl:pc=false:=by rw [Ea.out,lD,decide_eq_false (by omega:¬32≤(s[j].toNat:Int))];rfl
     clear Ea
     go_wp2_with fail
     go_meet
     exact ⟨rfl,rfl⟩
    ·by_cases p2:126<(s[j].toNat:Int)
     ·obtain rfl:pc=false:=by rw [Ea.out,lD,decide_eq_false (by omega:¬(s[j].toNat:Int)≤126)];simp
      clear Ea
      go_wp2_with fail
      go_meet
      exact ⟨rfl,rfl⟩
     ·by_cases p3:((s[j].toNat:Int)==34)=true
      ·obtain rfl:pc=false:=by rw [Ea.out,lD,bne,p3];simp
       clear Ea
       go_wp2_with fail
       go_meet
       exact ⟨rfl,rfl⟩
      ·have p3':((s[j].toNat:Int)==34)=false:=by simpa using p3
       obtain rfl:pc=!((s[j].toNat:Int)==92):=by rw [Ea.out,lD,decide_eq_true (by omega:32≤(s[j].toNat:Int)),decide_eq_true (by omega:(s[j].toNat:Int)≤126),bne,bne,p3'];rfl
       clear Ea p3
       go_wp2_with fail
       go_meet
       exact ⟨by rw [Bool.not_not],rfl⟩
   case rest =>
   obtain ⟨rfl,hwc⟩:=hcut
   obtain rfl:wr=wc:=hwc.symm
   clear hwc
   cases pc
   ·have hq:Hid (qB s[j]=[92,hexD (s[j].toNat / 16),hexD (s[j].toNat % 16)]):=anc (by unfold qB;rw [←Ea.out];rfl)
    have c0:(0:Int)≤(s[j].toNat:Int):=by omega
    have c1:(s[j].toNat:Int)<256:=by have:=s[j].toNat_lt;omega
    have c2:(0:Int)≤(s[j].toNat:Int) / 16:=by omega
    have c3:(s[j].toNat:Int) / 16<16:=by omega
    have c4:(0:Int)≤(s[j].toNat:Int) % 16:=by omega
    have c5:(s[j].toNat:Int) % 16<16:=by omega
    have x3:=Yr s[j]
    go_wp2_with fail
    go_quiet (fail)
    go_wp2_with fail
    go_roundw
    case rel=>exact ⟨j+1,cs++qB s[j],by omega,by go_num,by rw [hq.out,acx],hst,below_drewN HB.out _⟩
    case measure=>simp [intOf];omega
   ·have hq:Hid (qB s[j]=[s[j]]):=anc (by unfold qB;rw [←Ea.out];rfl)
    go_wp2_with fail
    go_roundw
    case rel=>exact ⟨j+1,cs++qB s[j],by omega,by go_num,by rw [hq.out,acy],hst,HB.out⟩
    case measure=>simp [intOf];omega
  ·obtain rfl:j=s.size:=by omega
   have hend:Hid (cs++[34]=qA s.data.toList):=anc (by rw [hcs.out,List.take_of_length_le (by simp)];rfl)
   clear hcs
   go_wp2_with fail
   go_ret
   refine ⟨?_,HB.out⟩
   show Ending.returned (Value.string (_++_))=_
   rw [←hend.out]
   have e:(ByteArray.mk cs.toArray)++⟨#[34]⟩=⟨(cs++[34]).toArray⟩:=by apply ByteArray.ext;simp
   rw [e]
theorem WO {k n:Int} {s:ByteArray} (hok:V.okB ⟨k,n,s⟩=true)(hk:(k==1)=false):(k==2)=true∧s.size≤40:=by
 unfold V.okB at hok
 rw [show ((V.mk k n s).k==1)=false from hk,Bool.false_and,Bool.false_or] at hok
 simp only [Bool.and_eq_true,decide_eq_true_eq] at hok
 exact ⟨hok.1,by have:=hok.2.2;omega⟩
theorem Qq (k n:Int)(s:ByteArray)(h0:-9223372036854775808≤n)(h1:n≤9223372036854775807)(w:World) :
 Calls Tryz.prog 155 #[.agg #[.int .i64 k,.int .i64 n,.string s]] w fun e w'=>e=.returned (.string ⟨(xC ⟨k,n,s⟩).toArray⟩)∧Below w.heap.size w w':=by
 have hr:=anc (ML k n s)
 cases hok:V.okB ⟨k,n,s⟩
 ·have e0:xC ⟨k,n,s⟩=[63]:=by unfold xC;rw [hok];rfl
  rw [hok] at hr
  rw [e0]
  clear hok e0
  go_enter Tryz.func155,Tryz.ntmps155
  go_wp2_with fail
  refine (hr.out _).mono ?_
  rintro e w' ⟨rfl,rfl⟩
  go_wp2_with fail
  go_ret
  exact ⟨rfl,((anl _ _).alloc (ank _) _).alloc (by simp) _⟩
 ·cases hk:(k==1)
  ·have e0:Hid (xC ⟨k,n,s⟩=qA s.data.toList):=anc (by unfold xC;rw [hok];simp only [hk];rfl)
   have hq:=anc (Qp s (by have:=(WO hok hk).2;omega))
   rw [hok] at hr
   clear hok
   go_enter Tryz.func155,Tryz.ntmps155
   go_wp2_with fail
   refine (hr.out _).mono ?_
   rintro e w' ⟨rfl,rfl⟩
   go_wp2_with fail
   refine (hq.out _).mono ?_
   rintro e w2 ⟨rfl,b2⟩
   have B2:=anc ((((anl w.heap.size w).alloc (ank _) _).alloc (by simp) _).trans (b2.mono (by simp;omega)))
   clear b2
   go_wp2_with fail
   go_ret
   exact ⟨by rw [e0.out];rfl,B2.out⟩
  ·have e0:Hid (xC ⟨k,n,s⟩=Lib.itoa n):=anc (by unfold xC;rw [hok];simp only [hk];rfl)
   have hq:=anc (CW n h0 h1)
   rw [hok] at hr
   clear hok
   go_enter Tryz.func155,Tryz.ntmps155
   go_wp2_with fail
   refine (hr.out _).mono ?_
   rintro e w' ⟨rfl,rfl⟩
   go_wp2_with fail
   refine (hq.out _).mono ?_
   rintro e w2 ⟨rfl,rfl⟩
   go_wp2_with fail
   go_ret
   exact ⟨by rw [e0.out];rfl,((anl w.heap.size w).alloc (ank _) _).alloc (by simp) _⟩
theorem pR (w:World)(k:Int)(s:ByteArray)(n:Int)(A:Option Addr)(m c:Nat)(a:Int):(w.alloc (.cells #[.int .i64 k,.string s,.int .i64 n,.slice A m c,.int .i64 a] 86)).heap[w.heap.size]?=some (.cells #[.int .i64 k,.string s,.int .i64 n,.slice A m c,.int .i64 a] 86 (0,0)):=anm w _
theorem Jt (t:T)(A:Option Addr)(c:Nat)(w:World)(hA:bz w w.heap.size A t.kids) :
 Calls Tryz.prog 82 #[t.val A c] w fun e w'=>e=.returned (.string (iR t))∧Below w.heap.size w w':=by
 obtain ⟨k,s,n,l,a⟩:=t
 change bz w w.heap.size A l at hA
 rw [show iR (.mk k s n l a)=o8 k l from rfl]
 simp only [T.val,T.k,T.s,T.n,T.kids,T.at_]
 have hb0:=aG w #[.int .i64 k,.string s,.int .i64 n,.slice A l.length c,.int .i64 a] 86
 have hlen:=hA.len
 by_cases h1:k=1
 ·subst h1
  by_cases h2:l.length=0
  ·obtain rfl:l=[]:=List.eq_nil_of_length_eq_zero h2
   rw [show o8 1 []=⟨#[]⟩ from rfl]
   have HB0:=anc hb0
   clear hb0 hA hlen h2
   simp only [List.length_nil] at *
   go_enter Tryz.func82,Tryz.ntmps82
   go_wp2_with fail
   go_ret
   exact ⟨rfl,HB0.out⟩
  ·obtain ⟨x,hx⟩:∃ x,l[0]?=some x:=⟨_,anr (by omega)⟩
   obtain ⟨b,o,A',c',rfl,hb,c1,c2,c3,c4,c5,hc',hK⟩:=hA.cu _ (anl _ _) 0 x hx
   rw [Nat.zero_mul,Nat.add_zero] at c1 c2
   have d1:=(hb0.cell hb).trans c1
   have d2:=(hb0.cell hb).trans c2
   have hw:o8 1 l=if x.k=2 then x.s else ⟨#[]⟩:=by
    cases l with
    | nil=>simp at hx
    | cons y l =>
      simp at hx;subst hx
      show (if (1:Int)=1∧y.k=2 then y.s else ⟨#[]⟩)=_
      by_cases e:y.k=2
      ·rw [if_pos ⟨rfl,e⟩,if_pos e]
      ·rw [if_neg (fun h=>e h.2),if_neg e]
   rw [hw]
   have HB0:=anc hb0
   clear hb0 hA hK hc' hx c3 c4 c5 hw
   generalize l.length=m at *
   have h2':(0:Int)<(m:Int):=by omega
   have abJ:decide ((0:Int)<(m:Int))=true:=decide_eq_true h2'
   by_cases hx2:x.k=2
   ·rw [if_pos hx2]
    rw [hx2] at c1 d1
    generalize x.s=xs at *
    clear hx2 x
    go_enter Tryz.func82,Tryz.ntmps82
    go_wp2_with fail
    go_ret
    exact ⟨rfl,HB0.out⟩
   ·rw [if_neg hx2]
    generalize x.s=xs at *
    generalize x.k=xk at *
    have RS:(xk==2)=false:=by simpa using hx2
    clear x
    go_enter Tryz.func82,Tryz.ntmps82
    go_wp2_with fail
    go_ret
    exact ⟨rfl,HB0.out⟩
 ·have h1':(k==1)=false:=by simpa using h1
  rw [show o8 k l=⟨#[]⟩ from by
   cases l with
   | nil=>rfl
   | cons x l=>exact if_neg fun h=>h1 h.1]
  have HB0:=anc hb0
  clear hb0 hA
  generalize l.length=m at *
  go_enter Tryz.func82,Tryz.ntmps82
  go_wp2_with fail
  go_ret
  exact ⟨rfl,HB0.out⟩
def allA (l:List T):Bool:=l.all fun x=>x.k==2
theorem Qr {l:List T} {k:Nat} {x:T} (hx:l[k]?=some x):allA (l.drop k)=((x.k==2)&&allA (l.drop (k+1))):=by
 obtain ⟨h1,e1⟩:=List.getElem?_eq_some_iff.1 hx
 rw [List.drop_eq_getElem_cons h1,e1]
 rfl
theorem qK (A:Option Addr)(c:Nat)(l:List T)(w:World)(hA:bz w w.heap.size A l) :
 Calls Tryz.prog 125 #[.slice A l.length c] w fun e w'=>e=.returned (.bool (allA l))∧w=w':=by
 have hn:=hA.len
 have HL:=anc hA.cu
 obtain ⟨n,en⟩:∃ n,n=l.length:=⟨_,rfl⟩
 have Hl:=anc en
 rw [←en] at hn ⊢
 clear hA en
 go_enter Tryz.func125,Tryz.ntmps125
 go_wp2_with fail
 go_loopw [3] (fun i wr=>∃ k:Nat,k≤n∧i=.int .i64 k∧wr=w∧Hid (allA l=allA (l.drop k))) (fun i _=>n-(intOf i).toNat)
 case atStart=>exact ⟨0,Nat.zero_le _,rfl,rfl,anc (by rw [List.drop_zero])⟩
 case round =>
  obtain ⟨k,hk,rfl,rfl,hz⟩:=hrel
  by_cases hlt:k<n
  ·obtain ⟨x,hx⟩:∃ x,l[k]?=some x:=⟨_,anr (by rw [←Hl.out];exact hlt)⟩
   have hst:=anc (hz.out.trans (Qr hx))
   obtain ⟨b,o,A',c',rfl,hb,c1,c2,c3,c4,c5,hc',hK⟩:=HL.out wr (anl _ _) k x hx
   clear hx hz hK c2 c3 c4 c5 hc'
   generalize x.k=xk at *
   by_cases he:xk=2
   ·subst he
    have hst':Hid (allA l=allA (l.drop (k+1))):=anc (hst.out.trans (Bool.true_and _))
    clear hst
    go_wp2_with fail
    go_roundw
    case rel=>exact ⟨k+1,by omega,by go_num,by first | rfl | trivial,hst'⟩
    case measure=>simp [intOf];omega
   ·have he1:(xk==2)=false:=by simpa using he
    have he2:(xk != 2)=true:=by simpa using he
    have hst':Hid (allA l=false):=anc (by rw [hst.out,he1,Bool.false_and])
    clear hst he
    go_wp2_with fail
    go_ret
    exact ⟨by rw [hst'.out];rfl,by first | rfl | trivial⟩
  ·have e:k=n:=by omega
   subst e
   have hst':Hid (allA l=true):=anc (by rw [hz.out,List.drop_of_length_le (by rw [←Hl.out];omega)];rfl)
   clear hz
   go_wp2_with fail
   go_ret
   exact ⟨by rw [hst'.out];rfl,by first | rfl | trivial⟩
theorem vU (t:T):eP t=(t.k==1&&allA t.kids):=rfl
theorem MM (s:ByteArray)(w:World):Calls Tryz.prog 129 #[.string s] w fun e w'=>e=.returned (.string ⟨(pJ s).toArray⟩)∧Below w.heap.size w w':=by
 have hr:=anc (Qq 2 0 s (by decide) (by decide) w)
 rw [show xC ⟨2,0,s⟩=pJ s from by unfold xC pJ;rfl] at hr
 go_enter Tryz.func129,Tryz.ntmps129
 go_wp2_with fail
 refine (hr.out).mono ?_
 rintro e w' ⟨rfl,hb⟩
 have HB:=anc hb
 clear hb
 go_wp2_with fail
 go_ret
 exact ⟨rfl,HB.out⟩
def bV (l:List (List UInt8))(j:Nat):List UInt8:=40::Lib.join (l.take j) [32]
theorem Qs (l:List (List UInt8))(x:List UInt8):Lib.join (l++[x]) [32]=if l=[] then x else Lib.join l [32]++32::x:=by
 cases l with
 | nil=>simp [Lib.join]
 | cons y l =>
   rw [if_neg (by simp),List.cons_append,Lib.join_cons,Lib.join_cons,List.append_assoc]
   congr 1
   induction l with
   | nil=>simp [Lib.joinTail]
   | cons z l ih=>simp only [List.cons_append,Lib.joinTail] at ih ⊢;simp [Lib.joinTail,ih]
theorem FQ (l:List (List UInt8)):bV l 0=[40]:=by simp [bV,Lib.join]
theorem Ju {l:List (List UInt8)} {x:List UInt8} (h:l[0]?=some x):bV l 1=bV l 0++x:=by
 unfold bV
 rw [List.take_add_one,h]
 simp [Lib.join]
theorem zG {l:List (List UInt8)} {j:Nat} {x:List UInt8} (h:l[j]?=some x)(hj:0<j):bV l (j+1)=(bV l j++[32])++x:=by
 have hl:j<l.length:=(List.getElem?_eq_some_iff.1 h).1
 unfold bV
 rw [List.take_add_one,h]
 show 40::Lib.join (l.take j++[x]) [32]=_
 rw [Qs,if_neg (by
  intro e
  have:=congrArg List.length e
  simp only [List.length_take,List.length_nil] at this
  omega)]
 simp
theorem CX (l:List (List UInt8))(j:Nat):(bV l j).length≤jC l+1:=by
 have h:=yg (l.take j)
 have e:jC l=jC (l.take j)+jC (l.drop j):=by rw [←sH,List.take_append_drop]
 unfold bV
 rw [List.length_cons]
 omega
theorem jl (a b:List UInt8):(⟨a.toArray⟩:ByteArray)++⟨b.toArray⟩=⟨(a++b).toArray⟩:=by
 apply ByteArray.ext
 simp [ByteArray.data_append]
theorem jd (a:List UInt8):(⟨a.toArray⟩:ByteArray).size=a.length:=rfl
theorem sK (l:List ByteArray)(hl:l.length≤600)(hs:∀ x∈l,x.size≤600)(A:Option Addr)(c:Nat)(w:World)(hA:Lies w (fun k=>k<w.heap.size) A (strs l)) :
 Calls Tryz.prog 89 #[.slice A l.length c] w fun e w'=>e=.returned (.string ⟨(dH (dX l)).toArray⟩)∧w=w':=by
 obtain ⟨n,en⟩:∃ n,n=l.length:=⟨_,rfl⟩
 obtain ⟨L,hL⟩:∃ L,L=l.map fun x=>x.data.toList:=⟨_,rfl⟩
 have hLn:L.length=n:=by rw [hL,List.length_map,en]
 have hpr:dH (dX l)=bV L n++[41]:=by
  unfold dX
  rw [pO,iW,List.map_map]
  have:(l.map (dH ∘ fE))=L:=by
   rw [hL]
   refine List.map_congr_left fun x _=>?_
   show dH (fE x)=_
   unfold fE
   rw [dH,if_neg (by decide),if_pos rfl]
  rw [this]
  unfold bV
  rw [List.take_of_length_le (Nat.le_of_eq hLn)]
  rfl
 have hsum:jC L≤360600:=by
  have:=GN L 600 (fun x hx=>by
   rw [hL] at hx
   obtain ⟨y,hy,rfl⟩:=List.mem_map.1 hx
   rw [Array.length_toList]
   exact hs y hy)
  rw [hLn] at this
  have h2:n*601≤600*601:=Nat.mul_le_mul_right _ (by omega)
  omega
 have afv:Hid (∀ j,j<n→∃ x:List UInt8,L[j]?=some x∧x.length≤600∧∃ b o,A=some ⟨b,o,none⟩∧w.cell? ⟨b,o+j,none⟩=some (.string ⟨x.toArray⟩)):=anc (fun j hj=>by
  obtain ⟨y,hx⟩:∃ y,l[j]?=some y:=⟨_,anr (by omega)⟩
  have hcell:(strs l)[j]?=some (.string y):=by unfold strs;rw [List.getElem?_map,hx];rfl
  rcases hA with h0 | ⟨b,o,hA,_,hc⟩
  ·rw [h0] at hcell;simp at hcell
  ·refine ⟨y.data.toList,by rw [hL,List.getElem?_map,hx];rfl,by rw [Array.length_toList];exact hs _ (anq hx),b,o,hA,?_⟩
   rw [hc j _ hcell,ba_eq])
 rw [hpr,←en]
 have HS:=anc hsum
 have hln:n≤600:=by omega
 clear hA hs hL hLn hpr hsum en hl
 go_enter Tryz.func89,Tryz.ntmps89
 go_wp2_with fail
 go_loopw [3,4] (fun s i wr=>∃ j:Nat,j≤n∧i=.int .i64 j∧s=.string ⟨(bV L j).toArray⟩∧wr=w) (fun _ i _=>n-(intOf i).toNat)
 case atStart=>exact ⟨0,Nat.zero_le _,rfl,by rw [FQ],by first | rfl | trivial⟩
 case round =>
  obtain ⟨j,hj,rfl,rfl,rfl⟩:=hrel
  have hlen:=CX L j
  have hs:=HS.out
  by_cases hlt:j<n
  ·obtain ⟨x,hx,hxl,b,o,rfl,hcx⟩:=afv.out j hlt
   cases j with
   | zero =>
     have hst:=anc (Ju hx)
     have HB:Hid ((⟨(bV L 0).toArray⟩:ByteArray)++⟨x.toArray⟩=⟨(bV L 1).toArray⟩):=anc (by rw [jl,hst.out])
     have hz:¬9223372036854775807<(⟨(bV L 0).toArray⟩:ByteArray).size+(⟨x.toArray⟩:ByteArray).size:=by rw [jd,jd];omega
     have hz1:(⟨(bV L 0).toArray⟩:ByteArray).size+(⟨x.toArray⟩:ByteArray).size≤9223372036854775807:=by omega
     rw [Nat.add_zero] at hcx
     clear hx hst hlen
     generalize (⟨(bV L 0).toArray⟩:ByteArray)=p0 at *
     generalize (⟨x.toArray⟩:ByteArray)=xb at *
     go_wp2_with fail
     go_roundw
     case rel=>exact ⟨1,by omega,by go_num,by rw [HB.out],by first | rfl | trivial⟩
     case measure=>simp [intOf];omega
   | succ j =>
     have hst:=anc (zG hx (by omega))
     have HB:Hid (((⟨(bV L (j+1)).toArray⟩:ByteArray)++⟨#[32]⟩)++⟨x.toArray⟩=⟨(bV L (j+1+1)).toArray⟩):=anc (by
      rw [show (⟨#[32]⟩:ByteArray)=⟨[32].toArray⟩ from rfl,jl,jl,hst.out])
     have hz:¬9223372036854775807<((⟨(bV L (j+1)).toArray⟩:ByteArray)++⟨#[32]⟩).size+(⟨x.toArray⟩:ByteArray).size:=by have h1:(⟨#[32]⟩:ByteArray).size=1:=rfl;simp only [ByteArray.size_append,jd,List.length_cons,List.length_nil];omega
     have hz2:¬9223372036854775807<(⟨(bV L (j+1)).toArray⟩:ByteArray).size+(⟨#[32]⟩:ByteArray).size:=by have h1:(⟨#[32]⟩:ByteArray).size=1:=rfl;have h2:(⟨#[41]⟩:ByteArray).size=1:=rfl;simp only [jd,List.length_cons,List.length_nil];omega
     have hj0:(0:Int)<(j:Int)+1:=by omega
     clear hx hst hlen
     generalize (⟨(bV L (j+1)).toArray⟩:ByteArray)=p0 at *
     generalize (⟨x.toArray⟩:ByteArray)=xb at *
     go_wp2_with fail
     go_roundw
     case rel=>exact ⟨j+1+1,by omega,by go_num,by rw [HB.out],by first | rfl | trivial⟩
     case measure=>simp [intOf];omega
  ·obtain rfl:j=n:=by omega
   have HB:Hid ((⟨(bV L j).toArray⟩:ByteArray)++⟨#[41]⟩=⟨(bV L j++[41]).toArray⟩):=anc (by rw [show (⟨#[41]⟩:ByteArray)=⟨[41].toArray⟩ from rfl,jl])
   have hz2:¬9223372036854775807<(⟨(bV L j).toArray⟩:ByteArray).size+(⟨#[41]⟩:ByteArray).size:=by have h1:(⟨#[32]⟩:ByteArray).size=1:=rfl;have h2:(⟨#[41]⟩:ByteArray).size=1:=rfl;simp only [jd,List.length_cons,List.length_nil];omega
   clear hlen
   generalize (⟨(bV L j).toArray⟩:ByteArray)=p0 at *
   go_wp2_with fail
   go_ret
   exact ⟨congrArg (fun x:ByteArray=>Ending.returned (Value.string x)) HB.out,by first | rfl | trivial⟩
theorem lV (t:T)(hs:t.s.size≤9223372036854775807)(A:Option Addr)(c:Nat)(w:World) :
 Calls Tryz.prog 83 #[t.val A c] w fun e w'=>e=.returned (.tuple #[.string (bif nameB t.s then t.s else ⟨#[]⟩),.int .i64 (bif nameB t.s then 0 else 20),.int .i64 (bif nameB t.s then 0 else t.at_)])∧Below w.heap.size w w':=by
 obtain ⟨k,s,n,l,a⟩:=t
 simp only [T.val,T.k,T.s,T.n,T.kids,T.at_] at hs ⊢
 have hb0:=aG w #[.int .i64 k,.string s,.int .i64 n,.slice A l.length c,.int .i64 a] 86
 have hnm:=anc (rX s hs (w.alloc (.cells #[.int .i64 k,.string s,.int .i64 n,.slice A l.length c,.int .i64 a] 86)))
 have HB0:=anc hb0
 have hx0:=anc (pR w k s n A l.length c a)
 clear hb0 hs
 generalize l.length=m at *
 generalize nameB s=q at *
 cases q
 ·simp only [cond_false]
  go_enter Tryz.func83,Tryz.ntmps83
  go_wp2_with fail
  refine (hnm.out).mono ?_
  rintro e w' ⟨rfl,hb⟩
  have dG:=anc ((hb.block w.heap.size (by simp)).trans hx0.out)
  have HB2:=anc (HB0.out.trans (hb.mono HB0.out.size))
  clear hb
  obtain ⟨⟨k0,k1,k2,k3,k4⟩,_,_,_,_,_⟩:=ay dG.out
  go_wp2_with fail
  go_quiet (fail)
  go_wp2_with fail
  go_ret3
  exact ⟨rfl,below_drewN HB2.out _⟩
 ·simp only [cond_true]
  go_enter Tryz.func83,Tryz.ntmps83
  go_wp2_with fail
  refine (hnm.out).mono ?_
  rintro e w' ⟨rfl,hb⟩
  have dG:=anc ((hb.block w.heap.size (by simp)).trans hx0.out)
  have HB2:=anc (HB0.out.trans (hb.mono HB0.out.size))
  clear hb
  obtain ⟨⟨k0,k1,k2,k3,k4⟩,_,_,_,_,_⟩:=ay dG.out
  go_wp2_with fail
  go_ret3
  exact ⟨rfl,HB2.out⟩
theorem sN (q:Bool)(s:ByteArray)(a:Int):(q=true∧(bif q then s else ⟨#[]⟩)=s∧(bif q then (0:Int) else 20)=0∧(bif q then (0:Int) else a)=0)∨(q=false∧(bif q then (0:Int) else 20)=20):=by
 cases q
 ·exact .inr ⟨rfl,rfl⟩
 ·exact .inl ⟨rfl,rfl,rfl,rfl⟩
def Ua (w w':World)(l:List T)(e:Ending):Prop :=
 (∃ A' c',e=.returned (.tuple #[.slice A' l.length c',.int .i64 0,.int .i64 0])∧l.length≤c'∧Lies w' (fun k=>w.heap.size≤k∧k<w'.heap.size) A' (strs (l.map T.s))∧∀ x∈l,nameB x.s=true) ∨
 (∃ a,e=.returned (.tuple #[.slice none 0 0,.int .i64 20,.int .i64 a])∧∃ x∈l,nameB x.s=false)
theorem qL (l:List T)(hl:l.length≤600)(hs:∀ x∈l,x.s.size≤600)(A:Option Addr)(c:Nat)(w:World)(hA:bz w w.heap.size A l) :
 Calls Tryz.prog 85 #[.slice A l.length c] w fun r w'=>Ua w w' l r∧Below w.heap.size w w':=by
 obtain ⟨ln,oL⟩:∃ ln,ln=l.length:=⟨_,rfl⟩
 have HK:=anc hA
 have jh:=anc oL
 have HS:=anc hs
 obtain ⟨i0,hi,hz0,hz1,hz2⟩:=info_parts o9
 rw [←oL] at hl ⊢
 clear hA oL hs
 go_enter Tryz.func85,Tryz.ntmps85
 go_wp2_with fail
 go_loopw [5,6] (fun v i wr=>∃ (j:Nat)(A':Option Addr)(c':Nat),j≤ln∧i=.int .i64 j∧v=.slice A' j c'∧wr.ownsRow w.heap.size 9 1 (.slice A' j c') j (strs ((l.map T.s).take j))∧Below w.heap.size w wr∧Hid (∀ x∈l.take j,nameB x.s=true)) (fun _ i _=>ln-(intOf i).toNat)
 case atStart=>exact ⟨0,none,0,Nat.zero_le _,rfl,rfl,⟨rfl,.inl ⟨rfl,rfl⟩⟩,anl _ _,anc (fun x hx=>by simp at hx)⟩
 case round =>
  obtain ⟨j,A',c',hj,rfl,rfl,hown,ho,hra⟩:=hrel
  have HO:=anc hown
  have HB:=anc ho
  have hsz:=ho.size
  clear hown ho
  by_cases hlt2:j<ln
  ·obtain ⟨x,hx⟩:∃ x,l[j]?=some x:=⟨_,anr (by rw [←jh.out];exact hlt2)⟩
   have htk:=anc (EJ (l:=l.map T.s) (j:=j) (x:=x.s) (by rw [List.getElem?_map,hx];rfl))
   have hnx:nameB x.s=true→Hid (∀ y∈l.take (j+1),nameB y.s=true):=fun hq=>anc (fun y hy=>by
    rw [List.take_add_one,hx] at hy
    rcases List.mem_append.1 hy with hy | hy
    ·exact hra.out y hy
    ·obtain rfl:y=x:=by simpa using hy
     exact hq)
   obtain ⟨b,o,A2,c2,rfl,hbl,m1,m2,m3,m4,m5,hcx,hKx⟩:=HK.out.cu wr HB.out j x hx
   have hcl:=anc (lV x (by have:=HS.out x (anq hx);omega) A2 c2 wr)
   have Aa:=anc hnx
   have YT:Hid (nameB x.s=false→∃ y∈l,nameB y.s=false):=anc (fun h=>⟨x,anq hx,h⟩)
   clear hx hKx hcx hnx hra
   have hcs:=sN (nameB x.s) x.s x.at_
   generalize (bif nameB x.s then x.s else ⟨#[]⟩)=r1 at *
   generalize (bif nameB x.s then (0:Int) else 20)=r2 at *
   generalize (bif nameB x.s then (0:Int) else x.at_)=r3 at *
   generalize nameB x.s=q at *
   obtain ⟨xk,xs,xn,xl,xa⟩:=x
   simp only [T.val,T.k,T.s,T.n,T.kids,T.at_] at m1 m2 m3 m4 m5 hcl htk hcs
   generalize xl.length=xm at *
   rcases hcs with ⟨rfl,rfl,rfl,rfl⟩ | ⟨rfl,rfl⟩
   ·have hq2:=Aa.out rfl
    go_wp2_with fail
    refine (hcl.out).mono ?_
    rintro e w2 ⟨rfl,hb2⟩
    have O9:=anc (own_below HO.out hb2)
    have HB2:=anc (HB.out.trans (hb2.mono hsz))
    have hs2:=HB2.out.size
    clear hb2
    go_wp2_with (at_builtin;refine wpList_append_own _ rfl _ _ 23 rfl w.heap.size 9 i0 _ 1 16 Tryz.underlying23 hi hz0 hz1 hz2 rfl (by decide) (.slice A' j c') j (strs ((l.map T.s).take j)) rfl (own_below O9.out ((anl w2.heap.size w2).alloc (ank _) _)) ⟨w2.heap.size,0,none⟩ 1 1 [.string r1] rfl rfl ?c1 ?c2 ?c3 ?c4 ?c5 ?_)
    case c1=>exact World.news_of_block (anm w2 _)
    case c2=>first | rfl | (intro u hu;simp at hu;subst hu;rfl)
    case c3=>unfold maxLen;omega
    case c4=>omega
    case c5=>first | omega | (simp;omega)
    intro v' w5 hown5 hgrow _
    have Ig:=(HB2.out.alloc hs2 (.cells #[.string r1] 9)).grown hgrow (by simp;omega) (fun k e=>(O9.out.lt k e).1)
    obtain ⟨g5,cap5,VR,_⟩:=hown5.form (by omega)
    subst VR
    have fV:Hid (w5.ownsRow w.heap.size 9 1 (.slice (some ⟨g5,0,none⟩) (j+1) cap5) (j+1) (strs ((l.map T.s).take (j+1)))):=anc (by
     rw [htk.out]
     exact hown5)
    have fP:=anc Ig
    clear hown5 hgrow Ig
    go_wp2_with fail
    go_roundw
    case rel=>exact ⟨j+1,_,cap5,by omega,by go_num,rfl,fV.out,fP.out,hq2⟩
    case measure=>simp [intOf];omega
   ·go_wp2_with fail
    refine (hcl.out).mono ?_
    rintro e w2 ⟨rfl,hb2⟩
    have HB2:=anc (HB.out.trans (hb2.mono hsz))
    clear hb2
    go_wp2_with fail
    go_ret3
    exact ⟨.inr ⟨_,rfl,YT.out (by first | rfl | trivial)⟩,HB2.out⟩
  ·obtain rfl:j=ln:=by omega
   obtain ⟨A3,c3,e3,hc3,hL⟩:=lQ HO.out (S:=fun k=>w.heap.size≤k∧k<wr.heap.size) (fun k h1 h2=>⟨h1,h2⟩)
   obtain ⟨rfl,rfl⟩:A'=A3∧c'=c3:=by injection e3 with e4 _ e5;exact ⟨e4,e5⟩
   have hml:(l.map T.s).take j=l.map T.s:=List.take_of_length_le (by rw [List.length_map];exact Nat.le_of_eq jh.out.symm)
   have YX:l.take j=l:=List.take_of_length_le (Nat.le_of_eq jh.out.symm)
   rw [hml] at hL
   have HL:=anc hL
   have HN9:Hid (∀ x∈l,nameB x.s=true):=by rw [YX] at hra;exact hra
   clear hL hra e3
   go_wp2_with fail
   go_ret3
   refine ⟨.inl ⟨A',c',?_,by rw [←jh.out];exact hc3,HL.out,HN9.out⟩,HB.out⟩
   rw [←jh.out]
   rfl
end Go.Proofs.YtjhkihkiebnpaaaGreatDoor
