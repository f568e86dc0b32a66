/-
  Package sexp's reader: texts.
-/
import Derived.Test.YtjhkihkiebnpaaaGreatDoorMj0
import Derived.Test.YtjhkihkiebnpaaaGreatDoorMj3
import Derived.Test.YtjhkihkiebnpaaaGreatDoorMj1
import Derived.Deep.RegionLaw
import Derived.Laws.IdiomStrings
set_option linter.unusedVariables false
set_option linter.unusedSimpArgs false
set_option maxRecDepth 100000
set_option maxHeartbeats 40000000
namespace Go.Proofs.YtjhkihkiebnpaaaGreatDoor
open Go.RowKit
theorem kM {fn:Func} {t u v x:Tmp} (h:fn.results=#[.tmp t,.tmp u,.tmp v,.tmp x])(tmps:Array Value)(P:Program)(w:World) :
 (results fn tmps).run P w=.ok (.tuple #[tmps.getD t undef,tmps.getD u undef,tmps.getD v undef,tmps.getD x undef]) w:=by
 simp[results,h]
theorem Tc:(Tryz.prog.info? 5).map (fun i=>(i.zero,i.size,i.bytes))=some (some (.int .u8 0),1,1):=by kernel_rfl
structure ah7 (s:ByteArray)(p:Nat)(w:World)(l j:Nat)(A:Option Addr)(c:Nat)(L:List UInt8)(w':World):Prop where
 pj:p<j
 js:j≤s.size
 lj:L.length≤j
 own:w'.ownsRow w.heap.size 5 1 (.slice A L.length c) L.length (DD L)
 low:Below w.heap.size w w'
 end_ : jD s p j L = textE s p
 lab:l=1∨(l=0∧j<s.size∧((bt s j).toNat:Int)=92)
def TJ (s:ByteArray)(p:Nat)(w:World)(l:Nat)(a:Act)(w':World):Prop:=∃ (j:Nat)(q:Int)(A:Option Addr)(n c:Nat)(L:List UInt8)(u5 u6 u7 u9 u10 u11 u12 u13 u14 u15 u16 u17 u18 u19 u20 u21 u22 u23 u24 u25 u26 u27 u28 u29 u30 u31 u32 u33 u34 u35 u36 u37 u38 u39 u40 u41 u42 u43 u44 u45 u46 u47 u48 u49 u50 u51 u52 u53 u54 u55 u56 u57 u58 u59 u60 u61 u62 u63 u64 u65 u66 u67 u68 u69 u70 u71 u72 u73 u74 u75 u76 u77 u78 u79 u80 u81 u82 u83 u84 u85 u86 u87 u88 u89 u90 u91 u92 u93:Value),
 a={ tmps:=#[.string s,.int .i64 (p:Int),undef,undef,.slice A n c,u5,u6,u7,.int .i64 q,u9,u10,u11,u12,u13,u14,u15,u16,u17,u18,u19,u20,u21,u22,u23,u24,u25,u26,u27,u28,u29,u30,u31,u32,u33,u34,u35,u36,u37,u38,u39,u40,u41,u42,u43,u44,u45,u46,u47,u48,u49,u50,u51,u52,u53,u54,u55,u56,u57,u58,u59,u60,u61,u62,u63,u64,u65,u66,u67,u68,u69,u70,u71,u72,u73,u74,u75,u76,u77,u78,u79,u80,u81,u82,u83,u84,u85,u86,u87,u88,u89,u90,u91,u92,u93],defers:=[] }∧q=(j:Int)∧n=L.length∧Hid (ah7 s p w l j A c L w')
def O5 (w:World)(r:List UInt8×Nat×Int×Int)(e:Ending)(w':World):Prop :=
 ∃ (A:Option Addr)(c:Nat),e=.returned (.tuple #[.slice A r.1.length c,.int .i64 (r.2.1:Int),.int .i64 r.2.2.1,.int .i64 r.2.2.2])∧w'.ownsRow w.heap.size 5 1 (.slice A r.1.length c) r.1.length (DD r.1)
theorem O5.none_ {w w':World} {r:List UInt8×Nat×Int×Int} {e:Ending} {why place:Int} (h:r=([],0,why,place))(he:e=.returned (.tuple #[.slice none 0 0,.int .i64 0,.int .i64 why,.int .i64 place])):O5 w r e w':=by
 subst h
 exact⟨none,0,he,rfl,.inl ⟨rfl,rfl⟩⟩
theorem VM (hH:zI)(s:ByteArray)(p:Nat)(hp:p<s.size)(hs:s.size≤600)(w:World):Calls Tryz.prog 100 #[.string s,.int .i64 (p:Int)] w fun e w'=>O5 w (textE s p) e w'∧Below w.heap.size w w':=by
 have HX:=ae (fun c w=>Yu hH c w)
 obtain⟨i0,hi,hz0,hz1,hz2⟩:=info_parts Tc
 go_enter Tryz.func100,Tryz.ntmps100
 go_wp2_with fail
 refine CP (TJ s p w) (fun l a _=>2*(s.size-(intOf (a.tmps.getD 8 undef)).toNat)+l) (fun hlab=>?_) (fun l a w1 hJ=>?_)
 ·have HLB:=ae (hlab 1 _ rfl)
  clear hlab
  go_wp2_with fail
  refine wp_label ?_
  simp only[Exit.then]
  rename_i hK0
  refine hK0 _ _ (HLB.o _ _ ?_)
  exact⟨p+1,_,none,0,0,[],_,_,_,_,_,_,_,_,_,_,_,_,_,_,_,_,_,_,_,_,_,_,_,_,_,_,_,_,_,_,_,_,_,_,_,_,_,_,_,_,_,_,_,_,_,_,_,_,_,_,_,_,_,_,_,_,_,_,_,_,_,_,_,_,_,_,_,_,_,_,_,_,_,_,_,_,_,_,_,_,_,_,_,_,_,_,_,_,rfl,by first|rfl|(push_cast;rfl)|omega,by first|rfl|simp,ae ⟨by omega,by omega,by simp,⟨rfl,.inl ⟨rfl,rfl⟩⟩,aG _ _,rfl,.inl rfl⟩⟩
 ·obtain⟨j,q,A,n,c,L,u5,u6,u7,u9,u10,u11,u12,u13,u14,u15,u16,u17,u18,u19,u20,u21,u22,u23,u24,u25,u26,u27,u28,u29,u30,u31,u32,u33,u34,u35,u36,u37,u38,u39,u40,u41,u42,u43,u44,u45,u46,u47,u48,u49,u50,u51,u52,u53,u54,u55,u56,u57,u58,u59,u60,u61,u62,u63,u64,u65,u66,u67,u68,u69,u70,u71,u72,u73,u74,u75,u76,u77,u78,u79,u80,u81,u82,u83,u84,u85,u86,u87,u88,u89,u90,u91,u92,u93,rfl,rfl,rfl,hT⟩:=hJ
  have HO:=ae hT.o.own
  have HB:=ae hT.o.low
  have HE:=ae hT.o.end_
  have hj0:=hT.o.pj
  have hj:=hT.o.js
  have hlj:=hT.o.lj
  have hsz:=HB.o.size
  have hlab:=hT.o.lab
  clear hT
  rcases hlab with rfl|⟨rfl,hl0,hl1⟩
  ·refine⟨_,rfl,?_⟩
   by_cases hlt:j<s.size
   ·have oN:=ae (uw hlt)
    cases uJ:((s[j].toNat:Int)==34)
    ·have n34:¬((bt s j).toNat:Int)=34:=by rw[oN.o];simpa using uJ
     cases FZ:((s[j].toNat:Int)==92)
     ·have n92:¬((bt s j).toNat:Int)=92:=by rw[oN.o];simpa using FZ
      cases h32:decide ((s[j].toNat:Int)<32)
      ·cases aaO:decide (126<(s[j].toNat:Int))
       ·have nb:¬(((bt s j).toNat:Int)<32∨126<((bt s j).toNat:Int)):=by rw[oN.o];simp at h32 aaO;omega
        have HE:=ae ((xG hlt n34 n92 nb).symm.trans HE.o)
        rw[oN.o] at HE
        clear n34 n92 nb oN
        go_wp2_with (at_builtin;refine wpList_append_own _ rfl _ _ 151 rfl w.heap.size 5 i0 _ 1 1 Tryz.underlying151 hi hz0 hz1 hz2 rfl (by decide) _ _ _ rfl (own_below HO.o ((aG w1.heap.size w1).alloc (aF _) _)) ⟨w1.heap.size,0,none⟩ 1 1 [NJ s[j]] rfl rfl ?c1 ?c2 ?c3 ?c4 ?c5 ?_)
        case c1=>exact bz (aH w1 _)
        case c2=>intro u hu;simp at hu;subst hu;rfl
        case c3=>unfold maxLen;omega
        case c4=>omega
        case c5=>simp;omega
        intro v' w5 hown5 hgrow _
        have JJ:=((HB.o.alloc (by omega) (.cells #[NJ s[j]] 5)).grown hgrow (by simp;omega) (fun g hg=>(HO.o.lt g hg).1))
        obtain⟨g5,cap5,XA,_⟩:=hown5.form (by omega)
        subst XA
        have jq:Hid (w5.ownsRow w.heap.size 5 1 (.slice (some ⟨g5,0,none⟩) (L++[s[j]]).length cap5) (L++[s[j]]).length (DD (L++[s[j]]))):=ae (by simpa [DD] using hown5)
        have hlen:(L++[s[j]]).length=L.length+1:=by simp
        have jA:=ae JJ
        clear hown5 hgrow JJ HO
        go_wp2_with fail
        go_step3
        simp only[Exit.then,eQ]
        refine⟨⟨j+1,_,_,_,_,L++[s[j]],_,_,_,_,_,_,_,_,_,_,_,_,_,_,_,_,_,_,_,_,_,_,_,_,_,_,_,_,_,_,_,_,_,_,_,_,_,_,_,_,_,_,_,_,_,_,_,_,_,_,_,_,_,_,_,_,_,_,_,_,_,_,_,_,_,_,_,_,_,_,_,_,_,_,_,_,_,_,_,_,_,_,_,_,_,_,_,_,rfl,by first|rfl|(push_cast;rfl)|omega,by first|rfl|simp,ae ⟨by omega,by omega,by omega,jq.o,jA.o,HE.o,.inl rfl⟩⟩,?_⟩
        simp[intOf]
        omega
       ·have nb:((bt s j).toNat:Int)<32∨126<((bt s j).toNat:Int):=by rw[oN.o];simp at h32 aaO;omega
        go_wp2_with fail
        (try simp only[Exit.inBlock,Exit.then,eQ])
        refine aJ (kM rfl _ _ _) rfl ?_
        exact⟨.none_ (HE.o.symm.trans (wJ hlt n34 n92 nb)) rfl,HB.o⟩
      ·have nb:((bt s j).toNat:Int)<32∨126<((bt s j).toNat:Int):=by rw[oN.o];simp at h32;omega
       go_wp2_with fail
       (try simp only[Exit.inBlock,Exit.then,eQ])
       refine aJ (kM rfl _ _ _) rfl ?_
       exact⟨.none_ (HE.o.symm.trans (wJ hlt n34 n92 nb)) rfl,HB.o⟩
     ·have y92:((bt s j).toNat:Int)=92:=by rw[oN.o];simpa using FZ
      go_wp2_with fail
      go_step3
      simp only[Exit.inBlock,Exit.then,eQ]
      refine⟨⟨j,_,_,_,_,L,_,_,_,_,_,_,_,_,_,_,_,_,_,_,_,_,_,_,_,_,_,_,_,_,_,_,_,_,_,_,_,_,_,_,_,_,_,_,_,_,_,_,_,_,_,_,_,_,_,_,_,_,_,_,_,_,_,_,_,_,_,_,_,_,_,_,_,_,_,_,_,_,_,_,_,_,_,_,_,_,_,_,_,_,_,_,_,_,rfl,by first|rfl|(push_cast;rfl)|omega,by first|rfl|simp,ae ⟨hj0,hj,hlj,HO.o,HB.o,HE.o,.inr ⟨rfl,hlt,y92⟩⟩⟩,?_⟩
      simp[intOf]
    ·have y34:((bt s j).toNat:Int)=34:=by rw[oN.o];simpa using uJ
     have HQ:=ae (HE.o.symm.trans (uQ hlt y34))
     have hlL:L.length=L.length:=rfl
     generalize hln:L.length=ln at *
     cases zZ:decide (40<(ln:Int))
     ·have Vj:¬40<ln:=by simp at zZ;omega
      have HQ2:=HQ.o
      rw[if_neg Vj] at HQ2
      have HQ:=ae HQ2
      clear HQ2
      go_wp2_with fail
      (try simp only[Exit.inBlock,Exit.then,eQ])
      refine aJ (kM rfl _ _ _) rfl ?_
      refine⟨?_,HB.o⟩
      rw[HQ.o]
      exact⟨A,c,by simp only;rw[hln];rfl,by simp only;rw[hln];exact HO.o⟩
     ·have Vj:40<ln:=by simp at zZ;omega
      have HQ2:=HQ.o
      rw[if_pos Vj] at HQ2
      have HQ:=ae HQ2
      clear HQ2
      go_wp2_with fail
      (try simp only[Exit.inBlock,Exit.then,eQ])
      refine aJ (kM rfl _ _ _) rfl ?_
      exact⟨.none_ HQ.o rfl,HB.o⟩
   ·go_wp2_with fail
    (try simp only[Exit.inBlock,Exit.then,eQ])
    refine aJ (kM rfl _ _ _) rfl ?_
    exact⟨.none_ (HE.o.symm.trans (Aj hlt)) rfl,HB.o⟩
  ·refine⟨_,rfl,?_⟩
   go_wp2_with fail
   go_loop [4,9] (fun v i=>v=.slice A L.length c∧∃ m:Nat,1≤m∧m≤3∧i=.int .i64 ((j+m:Nat):Int)∧Hid ((2≤m→j+1<s.size∧0≤mg (bt s (j+1)))∧(m=3→j+2<s.size∧0≤mg (bt s (j+2))))) (fun _ i=>j+3-(intOf i).toNat)
   case atStart=>exact⟨rfl,1,by omega,by omega,by go_num,ae ⟨fun h=>by omega,fun h=>by omega⟩⟩
   case round =>
    obtain⟨rfl,m,hm1,NI,rfl,hF⟩:=hrel
    by_cases hm:m≤2
    ·have hst:=ae (F5 (l:=L) (p:=p) hl0 hl1 (m:=m) (by omega) (fun h=>by have:=hF.o.1 (by omega);exact⟨this.1,by omega⟩))
     by_cases hks:j+m<s.size
     ·have hxk:=ae (fun w=>HX.o s[j+m] w)
      have HBK:=ae (uw hks)
      obtain⟨h,hh⟩:∃ h,h=mg s[j+m]:=⟨_,rfl⟩
      rw[←hh] at hxk
      cases hh0:decide (h<0)
      ·have hhn:¬h<0:=by simpa using hh0
       have HF2:Hid (0≤mg (bt s (j+m))):=ae (by rw[HBK.o,←hh];omega)
       clear hh hst
       go_wp2_with fail
       refine (hxk.o _).mono ?_
       rintro e w' ⟨rfl,rfl⟩
       go_wp2_with fail
       go_round
       case rel=>exact⟨rfl,m+1,by omega,by omega,by go_num,ae ⟨fun _=>by
        rcases Nat.lt_or_ge m 2 with h'|h'
        ·obtain rfl:m=1:=by omega
         exact⟨by omega,HF2.o⟩
        ·exact hF.o.1 h',fun h'=>by obtain rfl:m=2:=(by omega);exact⟨by omega,HF2.o⟩⟩⟩
       case measure=>simp[intOf];omega
      ·have HQ:=ae (HE.o.symm.trans (hst.o.2 hks (by rw[HBK.o,←hh];simpa using hh0)))
       clear hh hst
       go_wp2_with fail
       refine (hxk.o _).mono ?_
       rintro e w' ⟨rfl,rfl⟩
       go_wp2_with fail
       (try simp only[Exit.inBlock,Exit.then,eQ])
       refine aJ (kM rfl _ _ _) rfl ?_
       exact⟨.none_ HQ.o rfl,HB.o⟩
     ·have HQ:=ae (HE.o.symm.trans (hst.o.1 hks))
      clear hst
      go_wp2_with fail
      (try simp only[Exit.inBlock,Exit.then,eQ])
      refine aJ (kM rfl _ _ _) rfl ?_
      exact⟨.none_ HQ.o rfl,HB.o⟩
    ·obtain rfl:m=3:=by omega
     obtain⟨⟨hg1,hg2⟩,hg3,hg4⟩:=bU (hF.o.1 (by omega)) (hF.o.2 rfl)
     have Jo:=ae ((J6 (p:=p) (l:=L) hl0 hl1 hg1 (by omega) hg3 (by omega)).symm.trans HE.o)
     rw[uw hg1,uw hg3] at Jo
     rw[uw hg1] at hg2
     rw[uw hg3] at hg4
     have gZ:Hid (w1.drew.ownsRow w.heap.size 5 1 (.slice A L.length c) L.length (DD L)):=ae (own_below HO.o ((aG w1.heap.size w1).drew))
     obtain⟨j1,hj1⟩:∃ j1,j1=j+1:=⟨_,rfl⟩
     obtain⟨j2,hj2⟩:∃ j2,j2=j+2:=⟨_,rfl⟩
     have e1:IntKind.i64.wrap ((j:Int)+1)=(j1:Int):=by rw[hj1];unfold IntKind.wrap;simp[IntKind.bits,IntKind.signed];omega
     have e2:IntKind.i64.wrap ((j:Int)+2)=(j2:Int):=by rw[hj2];unfold IntKind.wrap;simp[IntKind.bits,IntKind.signed];omega
     have l1:j1<s.size:=by omega
     have l2:j2<s.size:=by omega
     have hx1:=ae (fun w=>HX.o (s[j1]'l1) w)
     have hx2:=ae (fun w=>HX.o (s[j2]'l2) w)
     have HGF:Hid (0≤mg (s[j1]'l1)∧0≤mg (s[j2]'l2)∧jD s p (j+3) (L++[Ai (mg (s[j1]'l1)) (mg (s[j2]'l2))])=textE s p):=ae (by subst hj1 hj2;exact⟨hg2,hg4,Jo.o⟩)
     obtain⟨h1,eh1⟩:∃ h,h=mg (s[j1]'l1):=⟨_,rfl⟩
     obtain⟨h2,eh2⟩:∃ h,h=mg (s[j2]'l2):=⟨_,rfl⟩
     rw[←eh1] at hx1 HGF
     rw[←eh2] at hx2 HGF
     have HJ:=ae (bU hj1 (bU hj2 (bU eh1 eh2)))
     clear hj1 hj2 eh1 eh2 hg2 hg4 Jo HE
     go_upto_region 20 with (fail)
     go_region_law (first
      | (refine step_append_lies _ rfl _ _ _ rfl w.heap.size 5 i0 _ 1 1 Tryz.underlying151 hi hz0 hz1 hz2 rfl (by decide) _ _ _ rfl (gZ.o.alloc _) ⟨w1.heap.size,0,none⟩ 1 1 [_] rfl rfl (bz (aH w1.drew _)) (by intro u hu;simp at hu;subst hu;rfl) (by decide) (by unfold maxLen;omega) (by omega) (by simp;omega) _ rfl ?_;intro g5 cap5 w5 hown5 hgrow hat hlt)
      | (go_simp;go_at_call 137;first|refine (hx1.o _).mono ?_|refine (hx2.o _).mono ?_
         rintro e w' ⟨rfl,rfl⟩))
     all_goals
      obtain⟨hj1,hj2,_⟩:=HJ.o
      have JJ:=((HB.o.trans ((aG w1.heap.size w1).drew.mono (by omega))).trans (((aG w1.heap.size w1.drew).alloc (aF _) _).mono (by omega))).grown hgrow (by simp;omega) (fun g hg=>(HO.o.lt g hg).1)
      have jq:Hid (w5.ownsRow w.heap.size 5 1 (.slice (some ⟨g5,0,none⟩) (L++[Ai h1 h2]).length cap5) (L++[Ai h1 h2]).length (DD (L++[Ai h1 h2]))):=ae (by
       have e:=Un h1 h2
       have:DD (L++[Ai h1 h2])=DD L++[NJ (Ai h1 h2)]:=by simp[DD]
       rw[this,e,aZ]
       exact hown5)
      have hlen:(L++[Ai h1 h2]).length=L.length+1:=by simp
      have jA:=ae JJ
      clear hown5 hgrow JJ HO hat
      go_wp2_with fail
      go_step3
      (try simp only[Exit.then,eQ])
      refine⟨⟨j+3,_,_,_,_,L++[Ai h1 h2],_,_,_,_,_,_,_,_,_,_,_,_,_,_,_,_,_,_,_,_,_,_,_,_,_,_,_,_,_,_,_,_,_,_,_,_,_,_,_,_,_,_,_,_,_,_,_,_,_,_,_,_,_,_,_,_,_,_,_,_,_,_,_,_,_,_,_,_,_,_,_,_,_,_,_,_,_,_,_,_,_,_,_,_,_,_,_,_,rfl,by first|rfl|(push_cast;rfl)|omega,by first|rfl|simp,ae ⟨by omega,by omega,by omega,jq.o,jA.o,HGF.o.2.2,.inl rfl⟩⟩,?_⟩
      simp[intOf]
      omega
end Go.Proofs.YtjhkihkiebnpaaaGreatDoor
