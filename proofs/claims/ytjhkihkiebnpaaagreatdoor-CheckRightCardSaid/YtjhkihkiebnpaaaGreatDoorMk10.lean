/-
  Package sexp's reader: texts.
-/
import Derived.Test.YtjhkihkiebnpaaaGreatDoorMk9
import Derived.Deep.RegionLaw
import Derived.Laws.IdiomStrings
set_option linter.unusedVariables false
set_option linter.unusedSimpArgs false
set_option maxRecDepth 100000
set_option maxHeartbeats 40000000
namespace Go.Proofs.YtjhkihkiebnpaaaGreatDoor
open Go.RowKit
theorem iY {fn:Func} {t u v x:Tmp} (h:fn.results=#[.tmp t,.tmp u,.tmp v,.tmp x])(tmps:Array Value)(P:Program)(w:World) :
 (results fn tmps).run P w=.ok (.tuple #[tmps.getD t undef,tmps.getD u undef,tmps.getD v undef,tmps.getD x undef]) w:=by
 simp [results,h]
theorem QK:(Tryz.prog.info? 5).map (fun i=>(i.zero,i.size,i.bytes))=some (some (.int .u8 0),1,1):=by kernel_rfl
structure af8 (s:ByteArray)(p:Nat)(w:World)(l j:Nat)(A:Option Addr)(c:Nat)(L:List UInt8)(w':World):Prop where
 pj:p<j
 js:j≤s.size
 lj:L.length≤j
 own:w'.ownsRow w.heap.size 5 1 (.slice A L.length c) L.length (BF L)
 low:Below w.heap.size w w'
 end_ : fO s p j L = textE s p
 lab:l=1∨(l=0∧j<s.size∧((bt s j).toNat:Int)=92)
def TJ (s:ByteArray)(p:Nat)(w:World)(l:Nat)(a:Act)(w':World):Prop:=∃ (j:Nat)(q:Int)(A:Option Addr)(n c:Nat)(L:List UInt8)(u5 u6 u7 u9 u10 u11 u12 u13 u14 u15 u16 u17 u18 u19 u20 u21 u22 u23 u24 u25 u26 u27 u28 u29 u30 u31 u32 u33 u34 u35 u36 u37 u38 u39 u40 u41 u42 u43 u44 u45 u46 u47 u48 u49 u50 u51 u52 u53 u54 u55 u56 u57 u58 u59 u60 u61 u62 u63 u64 u65 u66 u67 u68 u69 u70 u71 u72 u73 u74 u75 u76 u77 u78 u79 u80 u81 u82 u83 u84 u85 u86 u87 u88 u89 u90 u91 u92 u93:Value),
 a={ tmps:=#[.string s,.int .i64 (p:Int),undef,undef,.slice A n c,u5,u6,u7,.int .i64 q,u9,u10,u11,u12,u13,u14,u15,u16,u17,u18,u19,u20,u21,u22,u23,u24,u25,u26,u27,u28,u29,u30,u31,u32,u33,u34,u35,u36,u37,u38,u39,u40,u41,u42,u43,u44,u45,u46,u47,u48,u49,u50,u51,u52,u53,u54,u55,u56,u57,u58,u59,u60,u61,u62,u63,u64,u65,u66,u67,u68,u69,u70,u71,u72,u73,u74,u75,u76,u77,u78,u79,u80,u81,u82,u83,u84,u85,u86,u87,u88,u89,u90,u91,u92,u93],defers:=[] }∧q=(j:Int)∧n=L.length∧Hid (af8 s p w l j A c L w')
def Nl (w:World)(r:List UInt8×Nat×Int×Int)(e:Ending)(w':World):Prop :=
 ∃ (A:Option Addr)(c:Nat),e=.returned (.tuple #[.slice A r.1.length c,.int .i64 (r.2.1:Int),.int .i64 r.2.2.1,.int .i64 r.2.2.2])∧w'.ownsRow w.heap.size 5 1 (.slice A r.1.length c) r.1.length (BF r.1)
theorem Nl.none_ {w w':World} {r:List UInt8×Nat×Int×Int} {e:Ending} {why place:Int} (h:r=([],0,why,place))(he:e=.returned (.tuple #[.slice none 0 0,.int .i64 0,.int .i64 why,.int .i64 place])):Nl w r e w':=by
 subst h
 exact ⟨none,0,he,rfl,.inl ⟨rfl,rfl⟩⟩
theorem Uy (hH:yt)(s:ByteArray)(p:Nat)(hp:p<s.size)(hs:s.size≤600)(w:World):Calls Tryz.prog 100 #[.string s,.int .i64 (p:Int)] w fun e w'=>Nl w (textE s p) e w'∧Below w.heap.size w w':=by
 have HX:=anc (fun c w=>Xh hH c w)
 obtain ⟨i0,hi,hz0,hz1,hz2⟩:=info_parts QK
 go_enter Tryz.func100,Tryz.ntmps100
 go_wp2_with fail
 refine AV (TJ s p w) (fun l a _=>2*(s.size-(intOf (a.tmps.getD 8 undef)).toNat)+l) (fun hlab=>?_) (fun l a w1 hJ=>?_)
 ·have HLB:=anc (hlab 1 _ rfl)
  clear hlab
  go_wp2_with fail
  refine wp_label ?_
  simp only [Exit.then]
  rename_i hK0
  refine hK0 _ _ (HLB.out _ _ ?_)
  exact ⟨p+1,_,none,0,0,[],_,_,_,_,_,_,_,_,_,_,_,_,_,_,_,_,_,_,_,_,_,_,_,_,_,_,_,_,_,_,_,_,_,_,_,_,_,_,_,_,_,_,_,_,_,_,_,_,_,_,_,_,_,_,_,_,_,_,_,_,_,_,_,_,_,_,_,_,_,_,_,_,_,_,_,_,_,_,_,_,_,_,_,_,_,_,_,_,rfl,by first | rfl | (push_cast;rfl) | omega,by first | rfl | simp,anc ⟨by omega,by omega,by simp,⟨rfl,.inl ⟨rfl,rfl⟩⟩,anl _ _,rfl,.inl rfl⟩⟩
 ·obtain ⟨j,q,A,n,c,L,u5,u6,u7,u9,u10,u11,u12,u13,u14,u15,u16,u17,u18,u19,u20,u21,u22,u23,u24,u25,u26,u27,u28,u29,u30,u31,u32,u33,u34,u35,u36,u37,u38,u39,u40,u41,u42,u43,u44,u45,u46,u47,u48,u49,u50,u51,u52,u53,u54,u55,u56,u57,u58,u59,u60,u61,u62,u63,u64,u65,u66,u67,u68,u69,u70,u71,u72,u73,u74,u75,u76,u77,u78,u79,u80,u81,u82,u83,u84,u85,u86,u87,u88,u89,u90,u91,u92,u93,rfl,rfl,rfl,hT⟩:=hJ
  have HO:=anc hT.out.own
  have HB:=anc hT.out.low
  have HE:=anc hT.out.end_
  have hj0:=hT.out.pj
  have hj:=hT.out.js
  have hlj:=hT.out.lj
  have hsz:=HB.out.size
  have hlab:=hT.out.lab
  clear hT
  rcases hlab with rfl | ⟨rfl,hl0,hl1⟩
  ·refine ⟨_,rfl,?_⟩
   by_cases hlt:j<s.size
   ·have ny:=anc (oZ hlt)
    cases qR:((s[j].toNat:Int)==34)
    ·have n34:¬((bt s j).toNat:Int)=34:=by rw [ny.out];simpa using qR
     cases BG:((s[j].toNat:Int)==92)
     ·have n92:¬((bt s j).toNat:Int)=92:=by rw [ny.out];simpa using BG
      cases h32:decide ((s[j].toNat:Int)<32)
      ·cases Zq:decide (126<(s[j].toNat:Int))
       ·have nb:¬(((bt s j).toNat:Int)<32∨126<((bt s j).toNat:Int)):=by rw [ny.out];simp at h32 Zq;omega
        have HE:=anc ((pY hlt n34 n92 nb).symm.trans HE.out)
        rw [ny.out] at HE
        clear n34 n92 nb ny
        go_wp2_with (at_builtin;refine wpList_append_own _ rfl _ _ 151 rfl w.heap.size 5 i0 _ 1 1 Tryz.underlying151 hi hz0 hz1 hz2 rfl (by decide) _ _ _ rfl (own_below HO.out ((anl w1.heap.size w1).alloc (ank _) _)) ⟨w1.heap.size,0,none⟩ 1 1 [KW s[j]] rfl rfl ?c1 ?c2 ?c3 ?c4 ?c5 ?_)
        case c1=>exact World.news_of_block (anm w1 _)
        case c2=>intro u hu;simp at hu;subst hu;rfl
        case c3=>unfold maxLen;omega
        case c4=>omega
        case c5=>simp;omega
        intro v' w5 hown5 hgrow _
        have Ig:=((HB.out.alloc (by omega) (.cells #[KW s[j]] 5)).grown hgrow (by simp;omega) (fun g hg=>(HO.out.lt g hg).1))
        obtain ⟨g5,cap5,VR,_⟩:=hown5.form (by omega)
        subst VR
        have fV:Hid (w5.ownsRow w.heap.size 5 1 (.slice (some ⟨g5,0,none⟩) (L++[s[j]]).length cap5) (L++[s[j]]).length (BF (L++[s[j]]))):=anc (by simpa [BF] using hown5)
        have hlen:(L++[s[j]]).length=L.length+1:=by simp
        have fP:=anc Ig
        clear hown5 hgrow Ig HO
        go_wp2_with fail
        go_step3
        simp only [Exit.then,aU]
        refine ⟨⟨j+1,_,_,_,_,L++[s[j]],_,_,_,_,_,_,_,_,_,_,_,_,_,_,_,_,_,_,_,_,_,_,_,_,_,_,_,_,_,_,_,_,_,_,_,_,_,_,_,_,_,_,_,_,_,_,_,_,_,_,_,_,_,_,_,_,_,_,_,_,_,_,_,_,_,_,_,_,_,_,_,_,_,_,_,_,_,_,_,_,_,_,_,_,_,_,_,_,rfl,by first | rfl | (push_cast;rfl) | omega,by first | rfl | simp,anc ⟨by omega,by omega,by omega,fV.out,fP.out,HE.out,.inl rfl⟩⟩,?_⟩
        simp [intOf]
        omega
       ·have nb:((bt s j).toNat:Int)<32∨126<((bt s j).toNat:Int):=by rw [ny.out];simp at h32 Zq;omega
        go_wp2_with fail
        (try simp only [Exit.inBlock,Exit.then,aU])
        refine ano (iY rfl _ _ _) rfl ?_
        exact ⟨.none_ (HE.out.symm.trans (uf hlt n34 n92 nb)) rfl,HB.out⟩
      ·have nb:((bt s j).toNat:Int)<32∨126<((bt s j).toNat:Int):=by rw [ny.out];simp at h32;omega
       go_wp2_with fail
       (try simp only [Exit.inBlock,Exit.then,aU])
       refine ano (iY rfl _ _ _) rfl ?_
       exact ⟨.none_ (HE.out.symm.trans (uf hlt n34 n92 nb)) rfl,HB.out⟩
     ·have y92:((bt s j).toNat:Int)=92:=by rw [ny.out];simpa using BG
      go_wp2_with fail
      go_step3
      simp only [Exit.inBlock,Exit.then,aU]
      refine ⟨⟨j,_,_,_,_,L,_,_,_,_,_,_,_,_,_,_,_,_,_,_,_,_,_,_,_,_,_,_,_,_,_,_,_,_,_,_,_,_,_,_,_,_,_,_,_,_,_,_,_,_,_,_,_,_,_,_,_,_,_,_,_,_,_,_,_,_,_,_,_,_,_,_,_,_,_,_,_,_,_,_,_,_,_,_,_,_,_,_,_,_,_,_,_,_,rfl,by first | rfl | (push_cast;rfl) | omega,by first | rfl | simp,anc ⟨hj0,hj,hlj,HO.out,HB.out,HE.out,.inr ⟨rfl,hlt,y92⟩⟩⟩,?_⟩
      simp [intOf]
    ·have y34:((bt s j).toNat:Int)=34:=by rw [ny.out];simpa using qR
     have HQ:=anc (HE.out.symm.trans (nR hlt y34))
     have hlL:L.length=L.length:=rfl
     generalize hln:L.length=ln at *
     cases xK:decide (40<(ln:Int))
     ·have TT:¬40<ln:=by simp at xK;omega
      have ZL:=HQ.out
      rw [if_neg TT] at ZL
      have HQ:=anc ZL
      clear ZL
      go_wp2_with fail
      (try simp only [Exit.inBlock,Exit.then,aU])
      refine ano (iY rfl _ _ _) rfl ?_
      refine ⟨?_,HB.out⟩
      rw [HQ.out]
      exact ⟨A,c,by simp only;rw [hln];rfl,by simp only;rw [hln];exact HO.out⟩
     ·have TT:40<ln:=by simp at xK;omega
      have ZL:=HQ.out
      rw [if_pos TT] at ZL
      have HQ:=anc ZL
      clear ZL
      go_wp2_with fail
      (try simp only [Exit.inBlock,Exit.then,aU])
      refine ano (iY rfl _ _ _) rfl ?_
      exact ⟨.none_ HQ.out rfl,HB.out⟩
   ·go_wp2_with fail
    (try simp only [Exit.inBlock,Exit.then,aU])
    refine ano (iY rfl _ _ _) rfl ?_
    exact ⟨.none_ (HE.out.symm.trans (yN hlt)) rfl,HB.out⟩
  ·refine ⟨_,rfl,?_⟩
   go_wp2_with fail
   go_loop [4,9] (fun v i=>v=.slice A L.length c∧∃ m:Nat,1≤m∧m≤3∧i=.int .i64 ((j+m:Nat):Int)∧Hid ((2≤m→j+1<s.size∧0≤jf (bt s (j+1)))∧(m=3→j+2<s.size∧0≤jf (bt s (j+2))))) (fun _ i=>j+3-(intOf i).toNat)
   case atStart=>exact ⟨rfl,1,by omega,by omega,by go_num,anc ⟨fun h=>by omega,fun h=>by omega⟩⟩
   case round =>
    obtain ⟨rfl,m,hm1,KU,rfl,hF⟩:=hrel
    by_cases hm:m≤2
    ·have hst:=anc (D8 (l:=L) (p:=p) hl0 hl1 (m:=m) (by omega) (fun h=>by have:=hF.out.1 (by omega);exact ⟨this.1,by omega⟩))
     by_cases hks:j+m<s.size
     ·have hxk:=anc (fun w=>HX.out s[j+m] w)
      have HBK:=anc (oZ hks)
      obtain ⟨h,hh⟩:∃ h,h=jf s[j+m]:=⟨_,rfl⟩
      rw [←hh] at hxk
      cases hh0:decide (h<0)
      ·have hhn:¬h<0:=by simpa using hh0
       have HF2:Hid (0≤jf (bt s (j+m))):=anc (by rw [HBK.out,←hh];omega)
       clear hh hst
       go_wp2_with fail
       refine (hxk.out _).mono ?_
       rintro e w' ⟨rfl,rfl⟩
       go_wp2_with fail
       go_round
       case rel=>exact ⟨rfl,m+1,by omega,by omega,by go_num,anc ⟨fun _=>by
        rcases Nat.lt_or_ge m 2 with h' | h'
        ·obtain rfl:m=1:=by omega
         exact ⟨by omega,HF2.out⟩
        ·exact hF.out.1 h',fun h'=>by obtain rfl:m=2:=(by omega);exact ⟨by omega,HF2.out⟩⟩⟩
       case measure=>simp [intOf];omega
      ·have HQ:=anc (HE.out.symm.trans (hst.out.2 hks (by rw [HBK.out,←hh];simpa using hh0)))
       clear hh hst
       go_wp2_with fail
       refine (hxk.out _).mono ?_
       rintro e w' ⟨rfl,rfl⟩
       go_wp2_with fail
       (try simp only [Exit.inBlock,Exit.then,aU])
       refine ano (iY rfl _ _ _) rfl ?_
       exact ⟨.none_ HQ.out rfl,HB.out⟩
     ·have HQ:=anc (HE.out.symm.trans (hst.out.1 hks))
      clear hst
      go_wp2_with fail
      (try simp only [Exit.inBlock,Exit.then,aU])
      refine ano (iY rfl _ _ _) rfl ?_
      exact ⟨.none_ HQ.out rfl,HB.out⟩
    ·obtain rfl:m=3:=by omega
     obtain ⟨⟨hg1,hg2⟩,hg3,hg4⟩:=And.intro (hF.out.1 (by omega)) (hF.out.2 rfl)
     have G7:=anc ((zX (p:=p) (l:=L) hl0 hl1 hg1 (by omega) hg3 (by omega)).symm.trans HE.out)
     rw [oZ hg1,oZ hg3] at G7
     rw [oZ hg1] at hg2
     rw [oZ hg3] at hg4
     have dC:Hid (w1.drew.ownsRow w.heap.size 5 1 (.slice A L.length c) L.length (BF L)):=anc (own_below HO.out ((anl w1.heap.size w1).drew))
     obtain ⟨j1,hj1⟩:∃ j1,j1=j+1:=⟨_,rfl⟩
     obtain ⟨j2,hj2⟩:∃ j2,j2=j+2:=⟨_,rfl⟩
     have e1:IntKind.i64.wrap ((j:Int)+1)=(j1:Int):=by rw [hj1];unfold IntKind.wrap;simp [IntKind.bits,IntKind.signed];omega
     have e2:IntKind.i64.wrap ((j:Int)+2)=(j2:Int):=by rw [hj2];unfold IntKind.wrap;simp [IntKind.bits,IntKind.signed];omega
     have l1:j1<s.size:=by omega
     have l2:j2<s.size:=by omega
     have hx1:=anc (fun w=>HX.out (s[j1]'l1) w)
     have hx2:=anc (fun w=>HX.out (s[j2]'l2) w)
     have HGF:Hid (0≤jf (s[j1]'l1)∧0≤jf (s[j2]'l2)∧fO s p (j+3) (L++[vk (jf (s[j1]'l1)) (jf (s[j2]'l2))])=textE s p):=anc (by subst hj1 hj2;exact ⟨hg2,hg4,G7.out⟩)
     obtain ⟨h1,eh1⟩:∃ h,h=jf (s[j1]'l1):=⟨_,rfl⟩
     obtain ⟨h2,eh2⟩:∃ h,h=jf (s[j2]'l2):=⟨_,rfl⟩
     rw [←eh1] at hx1 HGF
     rw [←eh2] at hx2 HGF
     have HJ:=anc (And.intro hj1 (And.intro hj2 (And.intro eh1 eh2)))
     clear hj1 hj2 eh1 eh2 hg2 hg4 G7 HE
     go_upto_region 20 with (fail)
     go_region_law (first
      | (refine step_append_lies _ rfl _ _ _ rfl w.heap.size 5 i0 _ 1 1 Tryz.underlying151 hi hz0 hz1 hz2 rfl (by decide) _ _ _ rfl (dC.out.alloc _) ⟨w1.heap.size,0,none⟩ 1 1 [_] rfl rfl (World.news_of_block (anm w1.drew _)) (by intro u hu;simp at hu;subst hu;rfl) (by decide) (by unfold maxLen;omega) (by omega) (by simp;omega) _ rfl ?_;intro g5 cap5 w5 hown5 hgrow hat hlt)
      | (go_simp;go_at_call 137;first | refine (hx1.out _).mono ?_ | refine (hx2.out _).mono ?_
         rintro e w' ⟨rfl,rfl⟩))
     all_goals
      obtain ⟨hj1,hj2,_⟩:=HJ.out
      have Ig:=((HB.out.trans ((anl w1.heap.size w1).drew.mono (by omega))).trans (((anl w1.heap.size w1.drew).alloc (ank _) _).mono (by omega))).grown hgrow (by simp;omega) (fun g hg=>(HO.out.lt g hg).1)
      have fV:Hid (w5.ownsRow w.heap.size 5 1 (.slice (some ⟨g5,0,none⟩) (L++[vk h1 h2]).length cap5) (L++[vk h1 h2]).length (BF (L++[vk h1 h2]))):=anc (by
       have e:=RQ h1 h2
       have:BF (L++[vk h1 h2])=BF L++[KW (vk h1 h2)]:=by simp [BF]
       rw [this,e,List.length_append]
       exact hown5)
      have hlen:(L++[vk h1 h2]).length=L.length+1:=by simp
      have fP:=anc Ig
      clear hown5 hgrow Ig HO hat
      go_wp2_with fail
      go_step3
      (try simp only [Exit.then,aU])
      refine ⟨⟨j+3,_,_,_,_,L++[vk h1 h2],_,_,_,_,_,_,_,_,_,_,_,_,_,_,_,_,_,_,_,_,_,_,_,_,_,_,_,_,_,_,_,_,_,_,_,_,_,_,_,_,_,_,_,_,_,_,_,_,_,_,_,_,_,_,_,_,_,_,_,_,_,_,_,_,_,_,_,_,_,_,_,_,_,_,_,_,_,_,_,_,_,_,_,_,_,_,_,_,rfl,by first | rfl | (push_cast;rfl) | omega,by first | rfl | simp,anc ⟨by omega,by omega,by omega,fV.out,fP.out,HGF.out.2.2,.inl rfl⟩⟩,?_⟩
      simp [intOf]
      omega
end Go.Proofs.YtjhkihkiebnpaaaGreatDoor
