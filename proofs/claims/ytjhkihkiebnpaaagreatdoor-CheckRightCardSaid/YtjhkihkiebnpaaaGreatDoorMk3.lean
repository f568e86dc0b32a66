/-
  Package check's contracts: project.
-/
import Derived.Test.YtjhkihkiebnpaaaGreatDoorMk2
import Derived.Deep.AppendLies
import Derived.Deep.RegionHeld3
import Derived.BigQuiet
import Derived.Test.YtjhkihkiebnpaaaGreatDoorMk0
import Derived.Shelf.Strings.Builder1
import Derived.Shelf.Strings.Builder2
import Derived.Shelf.Strings.OnBuilder
import Derived.Shelf.Small.Strs
import Derived.Shelf.Strconv.Itoa0
import Derived.Shelf.Strconv.Itoa1
import Derived.Shelf.LaysM
import Derived.Shelf.Strconv.Itoa2
import Derived.Shelf.Strconv.Itoa3
import Derived.Shelf.Strconv.Itoa4
import Derived.Shelf.Strconv.ParseIntEmpty
import Derived.Shelf.Strconv.Clone
import Derived.Shelf.Strconv.SyntaxError
import Derived.Shelf.LaysC
import Derived.Shelf.Strconv.ToError
import Derived.Shelf.Strconv.Lower
import Derived.Shelf.Strconv.ParseUint10
import Derived.Shelf.Strconv.ParseUint10Empty
import Derived.Shelf.Strconv.ParseUint10Any
import Derived.Shelf.Strconv.ParseInt10
import Derived.Shelf.Strconv.RangeError
import Derived.Shelf.Strconv.ToErrorRange
import Derived.Shelf.Strconv.ParseUintEmpty
import Derived.Shelf.Strconv.ParseUint10b64
import Derived.Shelf.Strconv.ParseUint10b32
import Derived.Shelf.Strconv.ParseUint10b16
import Derived.Shelf.Strconv.ParseUint10b8
import Derived.Shelf.Strconv.ParseUint10At
import Derived.Shelf.Strconv.ParseInt10At64
import Derived.Shelf.Strconv.ParseInt10At32
import Derived.Shelf.Strconv.ParseInt10At16
import Derived.Shelf.Strconv.ParseInt10At8
import Derived.Shelf.Strconv.ParseInt10All
import Derived.Shelf.Strconv.ParseIntPublic10
import Derived.Shelf.Strconv.ErrVarParseInt
import Derived.Shelf.Strings.Search1
import Derived.Shelf.Sort.Plain
import Derived.Shelf.Slices.CompactS
import Derived.Shelf.Slices.In.SortNone
import Derived.Test.YtjhkihkiebnpaaaGreatDoorProg
set_option linter.unusedVariables false
set_option linter.unusedSimpArgs false
set_option maxRecDepth 100000
set_option maxHeartbeats 40000000
namespace Go.Proofs.YtjhkihkiebnpaaaGreatDoor
open Go.RowKit
theorem Eb {dK acc:List C} {l:List (ByteArray×E)} {k:Nat} {c:ByteArray} {e:E} (h:l[k]?=some (c,e)) :
 dR dK acc (l.drop k)=if (ed dK e).2=0 then (if df acc c=true then je 21 c else dR dK (acc++[⟨c,(ed dK e).1⟩]) (l.drop (k+1))) else je (ed dK e).2 ⟨#[]⟩:=by
 obtain ⟨h1,e1⟩:=List.getElem?_eq_some_iff.1 h
 rw [List.drop_eq_getElem_cons h1,e1,dR]
theorem Gs {dK acc:List C} {l:List (ByteArray×E)} {k:Nat} (h:l.length≤k):dR dK acc (l.drop k)=eG acc:=by
 rw [List.drop_of_length_le h,dR]
theorem IQ (p:P)(a:PA)(w:World)(hA:jS w (fun k=>k<w.heap.size) p a)(hce:p.cols.length=p.ex.length)(h6:p.ex.length≤600)(B:Option Addr)(d:Nat)(dK:List C)(hin:dK.length≤1000000)(hI:kG w w.heap.size B dK) :
 Calls Tryz.prog 48 #[p.val a,.slice B dK.length d] w fun e w'=>xe (fun k=>w.heap.size≤k∧k<w'.heap.size) (dR dK [] (p.cols.zip p.ex)) e w'∧Below w.heap.size w w':=by
 obtain ⟨k,nm,ex,cols,left,right,ag,kids⟩:=p
 obtain ⟨⟨pe,pc,pl,pr',pg,l1,l2,l3,l4,l5⟩,pk⟩:=hA
 simp only [P.val,P.k,P.nm,P.ex,P.cols,P.left,P.right,P.ag,P.kids] at pe pc hce h6 ⊢
 obtain ⟨ea,ec,ca,cc,la',lc,ra,rc,ga,gc,ka,kc⟩:=a
 simp only at pe pc ⊢
 obtain ⟨LZ,hLZ⟩:∃ LZ,LZ=cols.zip ex:=⟨_,rfl⟩
 rw [←hLZ]
 obtain ⟨R,hR⟩:∃ R,R=dR dK [] LZ:=⟨_,rfl⟩
 rw [←hR]
 have hll:LZ.length=ex.length:=by rw [hLZ,List.length_zip,hce,Nat.min_self]
 have HG:Hid (∀ j,j<ex.length→∃ c e,LZ[j]?=some (c,e)∧ex[j]?=some e∧∃ b o,ca=some ⟨b,o,none⟩∧b<w.heap.size∧w.cell? ⟨b,o+j,none⟩=some (.string c)):=anc (fun j hj=>by
  obtain ⟨e,he⟩:∃ e,ex[j]?=some e:=⟨_,anr hj⟩
  obtain ⟨c,hc⟩:∃ c,cols[j]?=some c:=⟨_,anr (by omega)⟩
  refine ⟨c,e,by rw [hLZ,List.getElem?_zip_eq_some];exact ⟨hc,he⟩,he,?_⟩
  have hcell:(strs cols)[j]?=some (.string c):=by unfold strs;rw [List.getElem?_map,hc];rfl
  rcases pc with h0 | ⟨b,o,hA,hb,hcx⟩
  ·rw [h0] at hcell;simp at hcell
  ·exact ⟨b,o,hA,hb,hcx j _ hcell⟩)
 have HEK:=anc (pe.to (B:=w.heap.size) (fun k hk=>hk))
 have HII:=anc hI
 obtain ⟨w0,xE⟩:∃ w0,w0=w.alloc (.cells #[.int .i64 k,.string nm,.slice ea ex.length ec,.slice ca cols.length cc,.slice la' left.length lc,.slice ra right.length rc,.slice ga ag.length gc,.slice ka kids.length kc] 27):=⟨_,rfl⟩
 have hb0:Below w.heap.size w w0:=by rw [xE];exact (anl _ _).alloc (ank _) _
 have hs0:w0.heap.size=w.heap.size+1:=by rw [xE];simp
 have hx0:w0.heap[w.heap.size]?=some (.cells #[.int .i64 k,.string nm,.slice ea ex.length ec,.slice ca cols.length cc,.slice la' left.length lc,.slice ra right.length rc,.slice ga ag.length gc,.slice ka kids.length kc] 27 (0,0)):=by rw [xE];exact anm w _
 obtain ⟨w1,aK⟩:∃ w1,w1=w0.alloc (.cells #[.int .i64 0,.string ⟨#[]⟩] 61):=⟨_,rfl⟩
 have hb1:Below w0.heap.size w0 w1:=by rw [aK];exact (anl _ _).alloc (ank _) _
 have hs1:w.heap.size+1<w1.heap.size:=by rw [aK];simp;omega
 have gU:Hid (w1.heap[w.heap.size]?=some (.cells #[.int .i64 k,.string nm,.slice ea ex.length ec,.slice ca cols.length cc,.slice la' left.length lc,.slice ra right.length rc,.slice ga ag.length gc,.slice ka kids.length kc] 27 (0,0))):=anc ((hb1.block _ (by omega)).trans hx0)
 have Y6:Hid (w1.heap[w.heap.size+1]?=some (.cells #[.int .i64 0,.string ⟨#[]⟩] 61 (0,0))):=anc (by rw [aK,←hs0];exact anm w0 _)
 have HW1:=anc (show w1=(w.alloc (.cells #[.int .i64 k,.string nm,.slice ea ex.length ec,.slice ca cols.length cc,.slice la' left.length lc,.slice ra right.length rc,.slice ga ag.length gc,.slice ka kids.length kc] 27)).alloc (.cells #[.int .i64 0,.string ⟨#[]⟩] 61) by rw [aK,xE])
 have HB1:=anc (hb0.trans (hb1.mono (by omega)))
 obtain ⟨i0,hi,hz0,hz1,hz2⟩:=info_parts xg
 obtain ⟨n,en⟩:∃ n,ex.length=n:=⟨_,rfl⟩
 have HN:=anc en
 have KA:Hid (LZ.length=n):=anc (hll.trans en)
 have HR:=anc hR
 have HCN:Hid (cols.length=n):=anc (hce.trans en)
 rw [en] at HG h6
 rw [en] at gU HW1 ⊢
 clear pe pc pl pr' pg pk l1 l2 l3 l4 l5 hce hLZ hR hll hI xE hb0 hx0 hs0 aK hb1 en
 generalize hm2:cols.length=m2 at *
 generalize KU:left.length=m3 at *
 generalize hm4:right.length=m4 at *
 generalize Yt:ag.length=m5 at *
 generalize KD:kids.length=m6 at *
 obtain ⟨q,eq⟩:∃ q,dK.length=q:=⟨_,rfl⟩
 have HQ:=anc eq
 rw [eq] at hin ⊢
 clear eq hm2 KU hm4 Yt KD
 obtain ⟨d0,d1,d2,d3,d4,d5,d6,d7,f0,f1,f2,f3,f4,f5,f6,f7⟩:=az gU.out
 go_enter Tryz.func48,Tryz.ntmps48
 go_upto_region 1 with (fail)
 rw [←HW1.out]
 go_wp2_with fail
 go_loopw [6,14] (fun v i wr=>∃ (k:Nat)(A':Option Addr)(c':Nat)(acc:List C),k≤n∧i=.int .i64 k∧acc.length=k∧v=.slice A' k c'∧wr.ownsRow w1.heap.size 42 2 (.slice A' k c') k (gI acc)∧Below w1.heap.size w1 wr∧Hid (R=dR dK acc (LZ.drop k))) (fun _ i _=>n-(intOf i).toNat)
 case atStart=>exact ⟨0,none,0,[],Nat.zero_le _,rfl,rfl,rfl,⟨rfl,.inl ⟨rfl,rfl⟩⟩,anl _ _,by simpa using HR⟩
 case round =>
  obtain ⟨j,A',c',acc,hj,rfl,hal,rfl,hown,hb,HL⟩:=hrel
  have HO:=anc hown
  have HB:=anc hb
  have hs:=hb.size
  have dC:=anc (HB1.out.trans (hb.mono (by omega)))
  have yT:=anc ((hb.block w.heap.size (by omega)).trans gU.out)
  have Lu:=anc ((hb.block (w.heap.size+1) (by omega)).trans Y6.out)
  have Bf:=anc hal
  obtain ⟨A3,c3,e3,hc3,hCS⟩:=pz (S:=fun k=>w1.heap.size≤k∧k<wr.heap.size) (by rw [Bf.out];exact HO.out) (fun g h1 h2 _=>⟨h1,h2⟩)
  rw [hal] at e3 hc3
  obtain ⟨rfl,rfl⟩:A'=A3∧c'=c3:=by injection e3 with e4 _ e5;exact ⟨e4,e5⟩
  have Pz:=anc hCS
  have HC3:=anc hc3
  clear hown hb hal d0 d1 d2 d3 d4 d5 d6 d7 f0 f1 f2 f3 f4 f5 f6 f7 e3 hCS hc3
  obtain ⟨d0,d1,d2,d3,d4,d5,d6,d7,_,_,_,_,_,_,_,_⟩:=az yT.out
  by_cases hlt:j<n
  ·obtain ⟨cn,e,hz,he,bc,oc,rfl,hbc,hcc⟩:=HG.out j hlt
   have hst:=anc (HL.out.trans (Eb hz))
   obtain ⟨b,o,A2,c2,rfl,hbe,z0,z1,z2,z3,hKx⟩:=HEK.out.cu wr dC.out j e he
   obtain ⟨wx,dN⟩:∃ wx,wx=wr.alloc (.cells #[.int .i64 e.k,.string e.s,.int .i64 e.n,.slice A2 e.kids.length c2] 38):=⟨_,rfl⟩
   have hbx:Below wr.heap.size wr wx:=by rw [dN];exact (anl _ _).alloc (ank _) _
   have hnx:wx.heap[wr.heap.size]?=some (.cells #[.int .i64 e.k,.string e.s,.int .i64 e.n,.slice A2 e.kids.length c2] 38 (0,0)):=by rw [dN];exact anm wr _
   have VB:=anc (Ir dK (by rw [HQ.out];omega) e A2 B c2 d wx ((hKx.low hbx).more hbx.size) ((HII.out.below (dC.out.trans (hbx.mono dC.out.size))).more (anv dC.out.size hbx.size)))
   rw [HQ.out] at VB
   have iJ:=anc hbx
   have hcw:=(dC.out.cell hbc).trans hcc
   have hcx:=(hbx.cell (anp hbc dC.out.size)).trans hcw
   have VC:=anc hcx
   have hjm:j≤600:=by omega
   have jM:=anc dN
   obtain ⟨ty,hty⟩:∃ ty,ty=ed dK e:=⟨_,rfl⟩
   rw [←hty] at VB hst
   have abT:=anc hnx
   obtain ⟨ek,es,eN,el⟩:=e
   obtain ⟨tk,tw⟩:=ty
   simp only [E.val,E.k,E.s,E.n,E.kids] at z0 z1 z2 z3 VB abT jM hst
   generalize el.length=em at *
   obtain ⟨⟨n0,n1,n2,n3⟩,_,_,_,_⟩:=bQ abT.out
   clear hz he hKx dN hbx hnx hcc hcw hcx HL hty
   go_upto_region 5 with (fail)
   rw [←jM.out]
   go_wp2_with fail
   refine (VB.out).mono ?_
   rintro r w3 ⟨rfl,hb3⟩
   have HB3:=anc (iJ.out.trans (hb3.mono iJ.out.size))
   have LC:=anc (dC.out.trans (HB3.out.mono dC.out.size))
   have mP:=anc ((HB3.out.block w.heap.size (by omega)).trans yT.out)
   have HF3:=anc ((HB3.out.block (w.heap.size+1) (by omega)).trans Lu.out)
   have abU:=(hb3.cell (show (⟨bc,oc+j,none⟩:Addr).block<wx.heap.size from anp hbc (anv dC.out.size iJ.out.size))).trans VC.out
   have hs3:=HB3.out.size
   clear hb3 n0 n1 n2 n3 z0 z1 z2 z3 d0 d1 d2 d3 d4 d5 d6 d7
   obtain ⟨d0,d1,d2,d3,d4,d5,d6,d7,_,_,_,_,_,_,_,_⟩:=az mP.out
   obtain ⟨⟨r0,r1⟩,g0,g1⟩:=cell2 HF3.out
   by_cases htw:tw=0
   ·subst htw
    have hjz:(j:Int)<(m2:Int):=by have:=HCN.out;omega
    have KE:=anc (Ba A' c' acc (by rw [Bf.out];omega) cn w3 ((Pz.out.kept fun k hk=>HB3.out.block k hk.2).to fun k hk=>anp hk.2 hs3))
    rw [Bf.out] at KE
    have hst2:Hid (R=if df acc cn=true then je 21 cn else dR dK (acc++[⟨cn,tk⟩]) (LZ.drop (j+1))):=anc (by rw [hst.out,if_pos rfl])
    clear hst
    generalize hfb:df acc cn=fb at *
    clear hfb
    go_wp2_with fail
    refine (KE.out).mono ?_
    rintro r w4 ⟨rfl,hb4⟩
    have HB4:=anc (HB3.out.trans (hb4.mono hs3))
    have uJ:=anc (dC.out.trans (HB4.out.mono dC.out.size))
    have qU:=anc ((hb4.block w.heap.size (by omega)).trans mP.out)
    have HF4:=anc ((hb4.block (w.heap.size+1) (by omega)).trans HF3.out)
    have ajY:=(hb4.cell (show (⟨bc,oc+j,none⟩:Addr).block<w3.heap.size from anp hbc LC.out.size)).trans abU
    have hs4:=HB4.out.size
    clear hb4 d0 d1 d2 d3 d4 d5 d6 d7 r0 r1 g0 g1 abU
    obtain ⟨d0,d1,d2,d3,d4,d5,d6,d7,_,_,_,_,_,_,_,_⟩:=az qU.out
    obtain ⟨⟨r0,r1⟩,g0,g1⟩:=cell2 HF4.out
    cases fb
    ·have HL2:Hid (R=dR dK (acc++[⟨cn,tk⟩]) (LZ.drop (j+1))):=anc (by rw [hst2.out];rfl)
     have jZ:=anc (own_below HO.out HB4.out)
     clear hst2
     go_wp2_with (at_builtin;refine wpList_append_lies _ rfl _ _ 29 rfl w1.heap.size 42 i0 _ 2 24 Tryz.underlying29 hi hz0 hz1 hz2 rfl (by decide) (.slice A' j c') j (gI acc) rfl (jZ.out.alloc _) ⟨w4.heap.size,0,none⟩ 1 1 [.string cn,.int .i64 tk] rfl rfl ?c1 ?c2 (by decide) ?c3 ?c4 ?c5 _ rfl ?_)
     case c1=>exact World.news_of_block (anm w4 _)
     case c2=>intro u hu;simp only [List.mem_cons,List.not_mem_nil,or_false] at hu;rcases hu with rfl | rfl <;> rfl
     case c3=>exact lJ rfl hjm
     case c4=>exact jP rfl hjm (by decide)
     case c5=>simp;omega
     intro g' cap w5 hown hgrow hat yU
     have fV:=anc hown
     have fP:=anc (((HB.out.trans (HB4.out.mono hs)).alloc (by omega) (.cells #[.string cn,.int .i64 tk] 42)).grown hgrow (by simp;omega) (fun k e=>(jZ.out.lt k e).1))
     clear hown hgrow hat
     go_wp2_with fail
     go_roundw
     case rel=>exact ⟨j+1,_,cap,acc++[⟨cn,tk⟩],by omega,by go_num,by simp [Bf.out],rfl,by rw [jw,mX];exact fV.out,fP.out,HL2⟩
     case measure=>simp [intOf];omega
    ·have HL2:Hid (R=je 21 cn):=anc (by rw [hst2.out];rfl)
     clear hst2
     go_upto_region 9 with (fail)
     go_region
     all_goals
      go_wp2_with fail
      refine ano (aP rfl rfl rfl (kD HF4.out)) rfl ?_
      exact ⟨fC (by decide) HL2.out rfl,(aQ uJ.out (Nat.le_succ _)).drew⟩
   ·have abC:(tw != 0)=true:=by simpa using htw
    have HL2:Hid (R=je tw ⟨#[]⟩):=anc (by rw [hst.out,if_neg htw])
    clear hst
    go_wp2_with fail
    refine ano (aP rfl rfl rfl (aY HF3.out)) rfl ?_
    exact ⟨fC htw HL2.out rfl,aQ LC.out (Nat.le_succ _)⟩
  ·obtain rfl:j=n:=by omega
   have HL2:Hid (R=eG acc):=anc (by rw [HL.out,Gs (by rw [KA.out];exact ank _)])
   have EX:=anc (rP A' c' acc (by rw [Bf.out];omega) (by rw [Bf.out];exact HC3.out) wr Pz.out (fun k hk=>hk.2))
   rw [Bf.out,←HL2.out] at EX
   clear HL HL2
   go_wp2_with fail
   refine (EX.out).mono ?_
   rintro r w3 ⟨⟨A9,n9,c9,rfl,ET⟩,hb3⟩
   have IC:=anc ET
   have LC:=anc (dC.out.trans (hb3.mono dC.out.size))
   have HF3:=anc ((hb3.block (w.heap.size+1) (by omega)).trans Lu.out)
   have hs3:=hb3.size
   clear hb3 ET
   obtain ⟨⟨r0,r1⟩,g0,g1⟩:=cell2 HF3.out
   go_wp2_with fail
   refine ano (aP rfl rfl rfl (aY HF3.out)) rfl ?_
   refine ⟨⟨A9,n9,c9,rfl,fun h=>?_⟩,aQ LC.out (Nat.le_succ _)⟩
   obtain ⟨h1,h2,h3⟩:=IC.out h
   refine ⟨h1,h2,(h3.kept fun k hk=>iC (by omega)).mono fun k hk=>⟨by omega,by have:=hk.2;simp [World.setCell];omega⟩⟩
def eqS (s:ByteArray)(x:ByteArray):Bool:=x.toList==s.toList
theorem SC (s x:ByteArray):(s.toList==x.toList)=eqS s x:=by
 unfold eqS
 exact Bool.beq_comm
theorem xG {w:World} {S:Nat→Prop} {A:Option Addr} {l:List ByteArray} (h:Lies w S A (strs l)) {j:Nat} {x:ByteArray} (hx:l[j]?=some x):∃ b o,A=some ⟨b,o,none⟩∧S b∧w.cell? ⟨b,o+j,none⟩=some (.string x):=by
 have hcell:(strs l)[j]?=some (.string x):=by unfold strs;rw [List.getElem?_map,hx];rfl
 rcases h with h0 | ⟨b,o,hA,hb,hcx⟩
 ·rw [h0] at hcell;simp at hcell
 ·exact ⟨b,o,hA,hb,hcx j _ hcell⟩
theorem LD (A:Option Addr)(c:Nat)(l:List ByteArray)(hl:l.length≤1000000)(s:ByteArray)(w:World)(hA:Lies w (fun k=>k<w.heap.size) A (strs l)) :
 Calls Tryz.prog 135 #[.slice A l.length c,.string s] w fun e w'=>e=.returned (.int .i64 (idx (eqS s) l 0))∧w=w':=by
 obtain ⟨n,en⟩:∃ n,l.length=n:=⟨_,rfl⟩
 have HN:=anc en
 have HA:=anc hA
 rw [en] at hl ⊢
 clear hA en
 go_enter Tryz.func135,Tryz.ntmps135
 go_wp2_with fail
 go_loopw [8] (fun i wr=>∃ k:Nat,k≤n∧i=.int .i64 k∧wr=w∧Hid (idx (eqS s) l 0=idx (eqS s) (l.drop k) k)) (fun i _=>n-(intOf i).toNat)
 case atStart=>exact ⟨0,Nat.zero_le _,rfl,by first | rfl | trivial,anc (by simp)⟩
 case round =>
  obtain ⟨k,hk,rfl,rfl,HL⟩:=hrel
  by_cases hlt:k<n
  ·obtain ⟨x,hx⟩:∃ x,l[k]?=some x:=⟨_,anr (by rw [HN.out];exact hlt)⟩
   obtain ⟨b,o,rfl,hb,c1⟩:=xG HA.out hx
   have HD:=anc (HL.out.trans (kH (p:=eqS s) hx))
   have hsw:=SC s x
   generalize hz:eqS s x=z at *
   clear hz hx HL
   cases z
   ·have NY:Hid (idx (eqS s) l 0=idx (eqS s) (l.drop (k+1)) (k+1)):=anc (by rw [HD.out];rfl)
    clear HD
    go_wp2_with fail
    go_roundw
    case rel=>exact ⟨k+1,by omega,by go_num,by first | rfl | trivial,NY⟩
    case measure=>simp [intOf];omega
   ·have HF:Hid (idx (eqS s) l 0=(k:Int)):=anc (by rw [HD.out];rfl)
    clear HD
    go_wp2_with fail
    go_ret
    exact ⟨by rw [HF.out];rfl,by first | rfl | trivial⟩
  ·obtain rfl:k=n:=by omega
   have HF:Hid (idx (eqS s) l 0=-1):=anc (by
    rw [HL.out,List.drop_of_length_le (by rw [HN.out];exact ank _)]
    rfl)
   go_wp2_with fail
   go_ret
   exact ⟨by rw [HF.out];rfl,by first | rfl | trivial⟩
theorem oH (A:Option Addr)(c:Nat)(l:List ByteArray)(hl:l.length≤1000000)(s:ByteArray)(w:World)(hA:Lies w (fun k=>k<w.heap.size) A (strs l)) :
 Calls Tryz.prog 95 #[.slice A l.length c,.string s] w fun e w'=>e=.returned (.bool (Gi l s))∧w=w':=by
 have h:=anc (LD A c l hl s w hA)
 have e:Gi l s=decide (0≤idx (eqS s) l 0):=(ry (eqS s) l 0).symm
 rw [e]
 generalize idx (eqS s) l 0=z at *
 generalize l.length=n at *
 clear hA e
 go_enter Tryz.func95,Tryz.ntmps95
 go_wp2_with fail
 refine (h.out).mono ?_
 rintro r w' ⟨rfl,rfl⟩
 go_wp2_with fail
 go_ret
 exact ⟨rfl,by first | rfl | trivial⟩
theorem BU {l:List C} {s:ByteArray} (h:df l s=true):∃ (j:Nat)(x:C),dL l s=(j:Int)∧l[j]?=some x∧ji l (dL l s)=x:=by
 unfold df at h
 have h0:0≤idx (C.mO s) l 0:=by simpa using h
 obtain ⟨j,x,h1,h2⟩:=Rz (C.mO s) l 0 h0
 have e:dL l s=(j:Int):=by unfold dL;rw [if_pos h0,h1];simp
 refine ⟨j,x,e,h2,?_⟩
 unfold ji
 rw [e,Int.toNat_natCast,List.getD_eq_getElem?_getD,h2]
 rfl
theorem EY {w:World} {S:Nat→Prop} {A:Option Addr} {l:List ByteArray} (h:Lies w S A (strs l))(n:Nat):Lies w S A (strs (l.take n)):=by
 rcases h with h | ⟨b,o,hA,hb,hc⟩
 ·left
  unfold strs at h ⊢
  rw [List.map_take,h,List.take_nil]
 ·refine .inr ⟨b,o,hA,hb,fun j u hj=>hc j u ?_⟩
  unfold strs at hj ⊢
  rw [List.map_take,List.getElem?_take] at hj
  split at hj
  ·exact hj
  ·cases hj
theorem SE (s:List ByteArray)(n:Nat)(x:ByteArray)(h:s[n]?=some x):s.getD n ⟨#[]⟩=x:=by rw [List.getD_eq_getElem?_getD,h];rfl
theorem SG (p:P)(a:PA)(w:World)(hA:jS w (fun k=>k<w.heap.size) p a)(hlc:p.left.length≤a.lc)(hrc:p.right.length≤a.rc)(n:Nat)(hn1:n<p.left.length)(hn2:n<p.right.length)(xH:p.left.length≤600)(nN:p.right.length≤600)
 (A B:Option Addr)(c d:Nat)(la lb:List C)(hla:la.length≤1000000)(hlb:lb.length≤1000000)(V6:kG w w.heap.size A la)(V7:kG w w.heap.size B lb) :
 Calls Tryz.prog 94 #[p.val a,.int .i64 n,.slice A la.length c,.slice B lb.length d] w fun e w'=>e=.returned (.agg #[.int .i64 (wZ la lb p.left p.right n).1,.string (wZ la lb p.left p.right n).2])∧Below w.heap.size w w':=by
 obtain ⟨k,nm,ex,cols,left,right,ag,kids⟩:=p
 obtain ⟨⟨pe,pc,pl,pr',pg,l1,l2,l3,l4,l5⟩,pk⟩:=hA
 simp only [P.val,P.k,P.nm,P.ex,P.cols,P.left,P.right,P.ag,P.kids] at pl pr' hlc hrc hn1 hn2 xH nN ⊢
 obtain ⟨ea,ec,ca,cc,la',lc,ra,rc,ga,gc,ka,kc⟩:=a
 simp only at pl pr' hlc hrc ⊢
 obtain ⟨sl,hsl⟩:∃ sl,left[n]?=some sl:=⟨_,anr hn1⟩
 obtain ⟨sr,Be⟩:∃ sr,right[n]?=some sr:=⟨_,anr hn2⟩
 obtain ⟨bl,ol,rfl,IU,hcl⟩:=xG pl hsl
 obtain ⟨br,or,rfl,Ec,hcr⟩:=xG pr' Be
 obtain ⟨R,hR⟩:∃ R,R=wZ la lb left right n:=⟨_,rfl⟩
 rw [←hR]
 unfold wZ at hR
 rw [SE _ _ _ hsl,SE _ _ _ Be] at hR
 have Kz:=anc (fun w' (hb:Below w.heap.size w w')=>oH (some ⟨bl,ol,none⟩) lc (left.take n) (by rw [List.length_take];omega) sl w' ((EY pl n).kept (w':=w') (fun k hk=>hb.block k hk) |>.mono fun k hk=>anp hk hb.size))
 have vJ:=anc (fun w' (hb:Below w.heap.size w w')=>oH (some ⟨br,or,none⟩) rc (right.take n) (by rw [List.length_take];omega) sr w' ((EY pr' n).kept (w':=w') (fun k hk=>hb.block k hk) |>.mono fun k hk=>anp hk hb.size))
 rw [List.length_take,Nat.min_eq_left (Nat.le_of_lt hn1)] at Kz
 rw [List.length_take,Nat.min_eq_left (Nat.le_of_lt hn2)] at vJ
 have Y6:=anc (fun w' (hb:Below w.heap.size w w')=>oP A c la (by omega) sl w' ((V6.below hb).more hb.size))
 have HF2:=anc (fun w' (hb:Below w.heap.size w w')=>oP B d lb (by omega) sr w' ((V7.below hb).more hb.size))
 have Y7:Hid (df la sl=true→∃ (j:Nat)(x:C),dL la sl=(j:Int)∧j<la.length∧ji la (dL la sl)=x∧∃ b o,A=some ⟨b,o,none⟩∧b<w.heap.size∧w.cell? ⟨b,o+j*2+1,none⟩=some (.int .i64 x.k)):=anc (fun h=>by
  obtain ⟨j,x,h1,h2,h3⟩:=BU h
  obtain ⟨b,o,hA,hb,_,hc⟩:=V6.cu h2
  exact ⟨j,x,h1,(List.getElem?_eq_some_iff.1 h2).1,h3,b,o,hA,hb,hc⟩)
 have Y8:Hid (df lb sr=true→∃ (j:Nat)(x:C),dL lb sr=(j:Int)∧j<lb.length∧ji lb (dL lb sr)=x∧∃ b o,B=some ⟨b,o,none⟩∧b<w.heap.size∧w.cell? ⟨b,o+j*2+1,none⟩=some (.int .i64 x.k)):=anc (fun h=>by
  obtain ⟨j,x,h1,h2,h3⟩:=BU h
  obtain ⟨b,o,hA,hb,_,hc⟩:=V7.cu h2
  exact ⟨j,x,h1,(List.getElem?_eq_some_iff.1 h2).1,h3,b,o,hA,hb,hc⟩)
 clear pe pc pl pr' pg pk l1 l2 l3 l4 l5 hsl Be V6 V7
 generalize hz1:Gi (left.take n) sl=z1 at *
 generalize hz2:Gi (right.take n) sr=z2 at *
 clear hz1 hz2
 obtain ⟨i1,hi1⟩:∃ i1,i1=dL la sl:=⟨_,rfl⟩
 obtain ⟨i2,hi2⟩:∃ i2,i2=dL lb sr:=⟨_,rfl⟩
 obtain ⟨K1,hK1⟩:∃ K1,K1=(ji la i1).k:=⟨_,rfl⟩
 obtain ⟨K2,hK2⟩:∃ K2,K2=(ji lb i2).k:=⟨_,rfl⟩
 rw [←hi1,←hi2,←hK1,←hK2] at hR
 rw [←hi1] at Y6 Y7
 rw [←hi2] at HF2 Y8
 generalize hq1:df la sl=q1 at *
 generalize hq2:df lb sr=q2 at *
 have Oc:Hid (q1=true→∃ j:Nat,i1=(j:Int)∧j<la.length∧∃ b o,A=some ⟨b,o,none⟩∧b<w.heap.size∧w.cell? ⟨b,o+j*2+1,none⟩=some (.int .i64 K1)):=anc (fun h=>by
  obtain ⟨j,x,h1,h2,h3,b,o,h4,h5,h6⟩:=Y7.out h
  exact ⟨j,h1,h2,b,o,h4,h5,by rw [hK1,h3];exact h6⟩)
 have HC2:Hid (q2=true→∃ j:Nat,i2=(j:Int)∧j<lb.length∧∃ b o,B=some ⟨b,o,none⟩∧b<w.heap.size∧w.cell? ⟨b,o+j*2+1,none⟩=some (.int .i64 K2)):=anc (fun h=>by
  obtain ⟨j,x,h1,h2,h3,b,o,h4,h5,h6⟩:=Y8.out h
  exact ⟨j,h1,h2,b,o,h4,h5,by rw [hK2,h3];exact h6⟩)
 have HR:=anc hR
 clear Y7 Y8 hK1 hK2 hi1 hi2 hq1 hq2 hR
 generalize hm1:ex.length=m1 at *
 generalize hm2:cols.length=m2 at *
 generalize KU:left.length=m3 at *
 generalize hm4:right.length=m4 at *
 generalize Yt:ag.length=m5 at *
 generalize KD:kids.length=m6 at *
 generalize la.length=na at *
 generalize lb.length=nb at *
 clear hm1 hm2 KU hm4 Yt KD
 obtain ⟨w0,xE⟩:∃ w0,w0=w.alloc (.cells #[.int .i64 k,.string nm,.slice ea m1 ec,.slice ca m2 cc,.slice (some ⟨bl,ol,none⟩) m3 lc,.slice (some ⟨br,or,none⟩) m4 rc,.slice ga m5 gc,.slice ka m6 kc] 27):=⟨_,rfl⟩
 have hb0:Below w.heap.size w w0:=by rw [xE];exact (anl _ _).alloc (ank _) _
 have hs0:w0.heap.size=w.heap.size+1:=by rw [xE];simp
 have hx0:w0.heap[w.heap.size]?=some (.cells #[.int .i64 k,.string nm,.slice ea m1 ec,.slice ca m2 cc,.slice (some ⟨bl,ol,none⟩) m3 lc,.slice (some ⟨br,or,none⟩) m4 rc,.slice ga m5 gc,.slice ka m6 kc] 27 (0,0)):=by rw [xE];exact anm w _
 obtain ⟨w1,aK⟩:∃ w1,w1=w0.alloc (.cells #[.int .i64 0,.string ⟨#[]⟩] 61):=⟨_,rfl⟩
 have hb1:Below w0.heap.size w0 w1:=by rw [aK];exact (anl _ _).alloc (ank _) _
 have hs1:w.heap.size+1<w1.heap.size:=by rw [aK];simp;omega
 have gU:Hid (w1.heap[w.heap.size]?=some (.cells #[.int .i64 k,.string nm,.slice ea m1 ec,.slice ca m2 cc,.slice (some ⟨bl,ol,none⟩) m3 lc,.slice (some ⟨br,or,none⟩) m4 rc,.slice ga m5 gc,.slice ka m6 kc] 27 (0,0))):=anc ((hb1.block _ (by omega)).trans hx0)
 have LG:Hid (w1.heap[w.heap.size+1]?=some (.cells #[.int .i64 0,.string ⟨#[]⟩] 61 (0,0))):=anc (by rw [aK,←hs0];exact anm w0 _)
 have HW1:=anc (show w1=(w.alloc (.cells #[.int .i64 k,.string nm,.slice ea m1 ec,.slice ca m2 cc,.slice (some ⟨bl,ol,none⟩) m3 lc,.slice (some ⟨br,or,none⟩) m4 rc,.slice ga m5 gc,.slice ka m6 kc] 27)).alloc (.cells #[.int .i64 0,.string ⟨#[]⟩] 61) by rw [aK,xE])
 have HB1:=anc (hb0.trans (hb1.mono (by omega)))
 clear xE hb0 hs0 hx0 aK hb1
 have hnl:(n:Int)<(m3:Int):=by omega
 have hnr:(n:Int)<(m4:Int):=by omega
 have ajZ:(n:Int)≤(m3:Int):=by omega
 have aj0:(n:Int)≤(m4:Int):=by omega
 have hn0:(0:Int)≤(n:Int):=by omega
 have aj1:n≤lc:=by omega
 have aj2:n≤rc:=by omega
 have aeO:=(HB1.out.cell (show (⟨bl,ol+n,none⟩:Addr).block<w.heap.size from IU)).trans hcl
 have jq:=anc hcl
 have HCR:=anc hcr
 obtain ⟨d0,d1,d2,d3,d4,d5,d6,d7,_,_,_,_,_,_,_,_⟩:=az gU.out
 clear hcl hcr
 go_enter Tryz.func94,Tryz.ntmps94
 go_upto_region 1 with (fail)
 rw [←HW1.out]
 go_wp2_with fail
 refine (Y6.out w1 HB1.out).mono ?_
 rintro e w2 ⟨rfl,hb2⟩
 have HB2:=anc (HB1.out.trans (hb2.mono HB1.out.size))
 have dG:=anc ((hb2.block w.heap.size (by omega)).trans gU.out)
 have HE2:=anc ((hb2.block (w.heap.size+1) (by omega)).trans LG.out)
 have hs2:=hb2.size
 clear hb2 d0 d1 d2 d3 d4 d5 d6 d7 aeO
 have hcr2:=(HB2.out.cell (show (⟨br,or+n,none⟩:Addr).block<w.heap.size from Ec)).trans HCR.out
 obtain ⟨d0,d1,d2,d3,d4,d5,d6,d7,_,_,_,_,_,_,_,_⟩:=az dG.out
 go_wp2_with fail
 refine (HF2.out w2 HB2.out).mono ?_
 rintro e w3 ⟨rfl,hb3⟩
 have HB3:=anc (HB2.out.trans (hb3.mono HB2.out.size))
 have HX:=anc ((hb3.block w.heap.size (by omega)).trans dG.out)
 have SH:=anc ((hb3.block (w.heap.size+1) (by omega)).trans HE2.out)
 have hs3:=hb3.size
 have hsx:w.heap.size<w3.heap.size:=by omega
 have hse:w.heap.size+1<w3.heap.size:=by omega
 have abX:bl<w3.heap.size:=by omega
 have abY:br<w3.heap.size:=by omega
 have hcbl:=anc ((HB3.out.cell (show (⟨bl,ol+n,none⟩:Addr).block<w.heap.size from IU)).trans jq.out)
 have PD:=anc ((HB3.out.cell (show (⟨br,or+n,none⟩:Addr).block<w.heap.size from Ec)).trans HCR.out)
 clear hb3 d0 d1 d2 d3 d4 d5 d6 d7 hcr2 IU Ec
 obtain ⟨d0,d1,d2,d3,d4,d5,d6,d7,_,_,_,_,_,_,_,_⟩:=az HX.out
 obtain ⟨⟨r0,r1⟩,g0,g1⟩:=cell2 SH.out
 have abZ:=hcbl.out
 have hcr3:=PD.out
 have hHL:=anc (fun w' (hb:Below w3.heap.size w3 w')=>Kz.out w' (HB3.out.trans (hb.mono HB3.out.size)))
 have hHR:=anc (fun w' (hb:Below w3.heap.size w3 w')=>vJ.out w' (HB3.out.trans (hb.mono HB3.out.size)))
 have IU:=abX
 have Ec:=abY
 cases q1
 ·have hr:Hid (R=(20,sl)):=anc (by rw [HR.out,if_pos rfl])
  go_wp2_with fail
  refine ano (jv rfl rfl (aY SH.out)) rfl ?_
  exact ⟨by (rw [hr.out];first | done | rfl),aQ HB3.out (Nat.le_succ _)⟩
 cases q2
 ·have hr:Hid (R=(20,sr)):=anc (by rw [HR.out,if_neg (by decide),if_pos rfl])
  go_wp2_with fail
  refine ano (jv rfl rfl (aY SH.out)) rfl ?_
  exact ⟨by (rw [hr.out];first | done | rfl),aQ HB3.out (Nat.le_succ _)⟩
 have HR2:Hid (R=if z1=true then (21,sl) else if z2=true then (21,sr) else if K1=K2 then (0,⟨#[]⟩) else (22,sl)):=anc (by rw [HR.out,if_neg (by decide),if_neg (by decide)])
 clear HR Y6 HF2 Kz vJ
 go_upto_region 7 with (fail)
 clear d0 d1 d2 d3 d4 d5 d6 d7 r0 r1 g0 g1 abZ hcr3
 refine wp_region_held_drew (S:=fun w'=>Below w3.heap.size w3 w') (by kernel_rfl) ((anl _ _).drew) (fun hHeld=>?_)
 refine wpAnyH_take (i:=0) (v:=.pointer (some ⟨w.heap.size,4,none⟩)) rfl (by kernel_rfl) (by kernel_rfl) (by kernel_rfl) (fun _ _ _ h=>h) (Or.inl ⟨by rfl,fun w1' hSw=>by (go_simp)⟩) (by assumption) ?_
 simp only [ane,anf,Act.put,anh,ani,anj]
 refine wpAnyH_take (i:=1) (v:=.slice (some ⟨bl,ol,none⟩) m3 lc) rfl (by kernel_rfl) (by kernel_rfl) (by kernel_rfl) (fun _ _ _ h=>h) (Or.inl ⟨by rfl,fun w1' hSw=>by (obtain ⟨d0,d1,d2,d3,d4,d5,d6,d7,_,_,_,_,_,_,_,_⟩:=az ((hSw.block _ hsx).trans HX.out);go_simp)⟩) (by assumption) ?_
 simp only [ane,ang,anf,Act.put,anh,ani,anj]
 refine wpAnyH_take (i:=2) (v:=.int .i64 n) rfl (by kernel_rfl) (by kernel_rfl) (by kernel_rfl) (fun _ _ _ h=>h) (Or.inl ⟨by rfl,fun w1' hSw=>by (go_simp)⟩) (by assumption) ?_
 simp only [ane,ang,anf,Act.put,anh,ani,anj]
 refine wpAnyH_take (i:=3) (v:=.slice (some ⟨bl,ol,none⟩) n lc) rfl (by kernel_rfl) (by kernel_rfl) (by kernel_rfl) (fun _ _ _ h=>h) (Or.inl ⟨by rfl,fun w1' hSw=>by (go_simp)⟩) (by assumption) ?_
 simp only [ane,ang,anf,Act.put,anh,ani,anj]
 refine wpAnyH_take (i:=4) (v:=.pointer (some ⟨w.heap.size,4,none⟩)) rfl (by kernel_rfl) (by kernel_rfl) (by kernel_rfl) (fun _ _ _ h=>h) (Or.inl ⟨by rfl,fun w1' hSw=>by (go_simp)⟩) (by assumption) ?_
 simp only [ane,ang,anf,Act.put,anh,ani,anj]
 refine wpAnyH_take (i:=5) (v:=.slice (some ⟨bl,ol,none⟩) m3 lc) rfl (by kernel_rfl) (by kernel_rfl) (by kernel_rfl) (fun _ _ _ h=>h) (Or.inl ⟨by rfl,fun w1' hSw=>by (obtain ⟨d0,d1,d2,d3,d4,d5,d6,d7,_,_,_,_,_,_,_,_⟩:=az ((hSw.block _ hsx).trans HX.out);go_simp)⟩) (by assumption) ?_
 simp only [ane,ang,anf,Act.put,anh,ani,anj]
 refine wpAnyH_take (i:=6) (v:=.int .i64 n) rfl (by kernel_rfl) (by kernel_rfl) (by kernel_rfl) (fun _ _ _ h=>h) (Or.inl ⟨by rfl,fun w1' hSw=>by (go_simp)⟩) (by assumption) ?_
 simp only [ane,ang,anf,Act.put,anh,ani,anj]
 refine wpAnyH_take (i:=7) (v:=.pointer (some ⟨bl,ol+n,none⟩)) rfl (by kernel_rfl) (by kernel_rfl) (by kernel_rfl) (fun _ _ _ h=>h) (Or.inl ⟨by rfl,fun w1' hSw=>by (go_simp)⟩) (by assumption) ?_
 simp only [ane,ang,anf,Act.put,anh,ani,anj]
 refine wpAnyH_take (i:=8) (v:=.string sl) rfl (by kernel_rfl) (by kernel_rfl) (by kernel_rfl) (fun _ _ _ h=>h) (Or.inl ⟨by rfl,fun w1' hSw=>by (have y0:=(hSw.cell IU).trans hcbl.out;go_simp)⟩) (by assumption) ?_
 simp only [ane,ang,anf,Act.put,anh,ani,anj]
 refine wpAnyH_ready (rs:=[9]) (by kernel_rfl) (by simp) ?_
 refine AllReadyH.cons rfl (fun K hK=>?_) AllReadyH.nil
 simp only [ane,ang,anf]
 go_simp
 refine (hHL.out _ hHeld).mono ?_
 rintro r wb ⟨rfl,hwb⟩
 subst hwb
 go_wp2_with fail
 refine hK.out _ _ hHeld (fun hHeld=>?_)
 clear hK K
 refine wpAnyH_take (i:=10) (v:=.bool z1) rfl (by kernel_rfl) (by kernel_rfl) (by kernel_rfl) (fun _ _ _ h=>h) (Or.inl ⟨by rfl,fun w1' hSw=>by (go_simp)⟩) (by assumption) ?_
 simp only [ane,ang,anf,Act.put,anh,ani,anj]
 refine wpAnyH_done (by kernel_rfl) ?_ _
 obtain ⟨wz,qC⟩:∃ wz,wz=w3.drew:=⟨_,rfl⟩
 rw [←qC]
 have HZ:Hid (Below w3.heap.size w3 wz):=anc (by rw [qC];exact (anl _ _).drew)
 clear qC
 clear hHeld
 have Gt:=anc (HB3.out.trans (HZ.out.mono HB3.out.size))
 have HXZ:=anc ((HZ.out.block _ hsx).trans HX.out)
 have HEZ:=anc ((HZ.out.block _ hse).trans SH.out)
 obtain ⟨d0,d1,d2,d3,d4,d5,d6,d7,_,_,_,_,_,_,_,_⟩:=az HXZ.out
 obtain ⟨⟨r0,r1⟩,g0,g1⟩:=cell2 HEZ.out
 have ab1:=(HZ.out.cell (show (⟨bl,ol+n,none⟩:Addr).block<w3.heap.size from IU)).trans hcbl.out
 cases z1
 rotate_left
 ·have hr:Hid (R=(21,sl)):=anc (by rw [HR2.out,if_pos rfl])
  go_wp2_with fail
  refine ano (jv rfl rfl (aY HEZ.out)) rfl ?_
  exact ⟨by (rw [hr.out];first | done | rfl),aQ Gt.out (Nat.le_succ _)⟩
 have HR3:Hid (R=if z2=true then (21,sr) else if K1=K2 then (0,⟨#[]⟩) else (22,sl)):=anc (by rw [HR2.out,if_neg (by decide)])
 have aeQ:=anp hsx HZ.out.size
 have ab2:=anp IU HZ.out.size
 have ab3:=anp Ec HZ.out.size
 have ab4:=anc ((HZ.out.cell (show (⟨br,or+n,none⟩:Addr).block<w3.heap.size from Ec)).trans PD.out)
 have ab5:=anc ab1
 have aeR:=anc (fun w' (hb:Below wz.heap.size wz w')=>hHR.out w' (HZ.out.trans (hb.mono HZ.out.size)))
 clear HR2 HX hsx hHL hHR PD hcbl Ec IU
 have HX:=HXZ
 have hsx:=aeQ
 have Ec:=ab3
 have PD:=ab4
 go_upto_region 9 with (fail)
 clear d0 d1 d2 d3 d4 d5 d6 d7 r0 r1 g0 g1 ab1
 refine wp_region_held_drew (S:=fun w'=>Below wz.heap.size wz w') (by kernel_rfl) ((anl _ _).drew) (fun hHeld=>?_)
 refine wpAnyH_take (i:=0) (v:=.pointer (some ⟨w.heap.size,5,none⟩)) rfl (by kernel_rfl) (by kernel_rfl) (by kernel_rfl) (fun _ _ _ h=>h) (Or.inl ⟨by rfl,fun w1' hSw=>by (go_simp)⟩) (by assumption) ?_
 simp only [ane,anf,Act.put,anh,ani,anj]
 refine wpAnyH_take (i:=1) (v:=.slice (some ⟨br,or,none⟩) m4 rc) rfl (by kernel_rfl) (by kernel_rfl) (by kernel_rfl) (fun _ _ _ h=>h) (Or.inl ⟨by rfl,fun w1' hSw=>by (obtain ⟨d0,d1,d2,d3,d4,d5,d6,d7,_,_,_,_,_,_,_,_⟩:=az ((hSw.block _ hsx).trans HX.out);go_simp)⟩) (by assumption) ?_
 simp only [ane,ang,anf,Act.put,anh,ani,anj]
 refine wpAnyH_take (i:=2) (v:=.int .i64 n) rfl (by kernel_rfl) (by kernel_rfl) (by kernel_rfl) (fun _ _ _ h=>h) (Or.inl ⟨by rfl,fun w1' hSw=>by (go_simp)⟩) (by assumption) ?_
 simp only [ane,ang,anf,Act.put,anh,ani,anj]
 refine wpAnyH_take (i:=3) (v:=.slice (some ⟨br,or,none⟩) n rc) rfl (by kernel_rfl) (by kernel_rfl) (by kernel_rfl) (fun _ _ _ h=>h) (Or.inl ⟨by rfl,fun w1' hSw=>by (go_simp)⟩) (by assumption) ?_
 simp only [ane,ang,anf,Act.put,anh,ani,anj]
 refine wpAnyH_take (i:=4) (v:=.pointer (some ⟨w.heap.size,5,none⟩)) rfl (by kernel_rfl) (by kernel_rfl) (by kernel_rfl) (fun _ _ _ h=>h) (Or.inl ⟨by rfl,fun w1' hSw=>by (go_simp)⟩) (by assumption) ?_
 simp only [ane,ang,anf,Act.put,anh,ani,anj]
 refine wpAnyH_take (i:=5) (v:=.slice (some ⟨br,or,none⟩) m4 rc) rfl (by kernel_rfl) (by kernel_rfl) (by kernel_rfl) (fun _ _ _ h=>h) (Or.inl ⟨by rfl,fun w1' hSw=>by (obtain ⟨d0,d1,d2,d3,d4,d5,d6,d7,_,_,_,_,_,_,_,_⟩:=az ((hSw.block _ hsx).trans HX.out);go_simp)⟩) (by assumption) ?_
 simp only [ane,ang,anf,Act.put,anh,ani,anj]
 refine wpAnyH_take (i:=6) (v:=.int .i64 n) rfl (by kernel_rfl) (by kernel_rfl) (by kernel_rfl) (fun _ _ _ h=>h) (Or.inl ⟨by rfl,fun w1' hSw=>by (go_simp)⟩) (by assumption) ?_
 simp only [ane,ang,anf,Act.put,anh,ani,anj]
 refine wpAnyH_take (i:=7) (v:=.pointer (some ⟨br,or+n,none⟩)) rfl (by kernel_rfl) (by kernel_rfl) (by kernel_rfl) (fun _ _ _ h=>h) (Or.inl ⟨by rfl,fun w1' hSw=>by (go_simp)⟩) (by assumption) ?_
 simp only [ane,ang,anf,Act.put,anh,ani,anj]
 refine wpAnyH_take (i:=8) (v:=.string sr) rfl (by kernel_rfl) (by kernel_rfl) (by kernel_rfl) (fun _ _ _ h=>h) (Or.inl ⟨by rfl,fun w1' hSw=>by (have y0:=(hSw.cell Ec).trans PD.out;go_simp)⟩) (by assumption) ?_
 simp only [ane,ang,anf,Act.put,anh,ani,anj]
 refine wpAnyH_ready (rs:=[9]) (by kernel_rfl) (by simp) ?_
 refine AllReadyH.cons rfl (fun K hK=>?_) AllReadyH.nil
 simp only [ane,ang,anf]
 go_simp
 refine (aeR.out _ hHeld).mono ?_
 rintro r wb ⟨rfl,hwb⟩
 subst hwb
 go_wp2_with fail
 refine hK.out _ _ hHeld (fun hHeld=>?_)
 clear hK K
 refine wpAnyH_take (i:=10) (v:=.bool z2) rfl (by kernel_rfl) (by kernel_rfl) (by kernel_rfl) (fun _ _ _ h=>h) (Or.inl ⟨by rfl,fun w1' hSw=>by (go_simp)⟩) (by assumption) ?_
 simp only [ane,ang,anf,Act.put,anh,ani,anj]
 refine wpAnyH_done (by kernel_rfl) ?_ _
 obtain ⟨wy,yH⟩:∃ wy,wy=wz.drew:=⟨_,rfl⟩
 rw [←yH]
 have HY:Hid (Below wz.heap.size wz wy):=anc (by rw [yH];exact (anl _ _).drew)
 clear yH
 clear hHeld
 have BV:=anc (Gt.out.trans (HY.out.mono Gt.out.size))
 have HXY:=anc ((HY.out.block _ hsx).trans HX.out)
 have HEY:=anc ((HY.out.block _ (anp hse HZ.out.size)).trans HEZ.out)
 obtain ⟨d0,d1,d2,d3,d4,d5,d6,d7,_,_,_,_,_,_,_,_⟩:=az HXY.out
 obtain ⟨⟨r0,r1⟩,g0,g1⟩:=cell2 HEY.out
 have aj6:=(HY.out.cell (show (⟨bl,ol+n,none⟩:Addr).block<wz.heap.size from ab2)).trans ab5.out
 have aj7:=(HY.out.cell (show (⟨br,or+n,none⟩:Addr).block<wz.heap.size from Ec)).trans PD.out
 cases z2
 rotate_left
 ·have hr:Hid (R=(21,sr)):=anc (by rw [HR3.out,if_pos rfl])
  go_wp2_with fail
  refine ano (jv rfl rfl (aY HEY.out)) rfl ?_
  exact ⟨by (rw [hr.out];first | done | rfl),aQ BV.out (Nat.le_succ _)⟩
 have HR4:Hid (R=if K1=K2 then (0,⟨#[]⟩) else (22,sl)):=anc (by rw [HR3.out,if_neg (by decide)])
 obtain ⟨j1,rfl,hj1,b1,o1,rfl,hb1,e1⟩:=Oc.out (by first | rfl | trivial)
 obtain ⟨j2,rfl,hj2,b2,o2,rfl,hb2,e2⟩:=HC2.out (by first | rfl | trivial)
 have e1y:=(BV.out.cell hb1).trans e1
 have e2y:=(BV.out.cell hb2).trans e2
 have aj8:(j1:Int)<(na:Int):=by omega
 have aj9:(j2:Int)<(nb:Int):=by omega
 clear HR3 Oc HC2 e1 e2
 go_upto_region 11 with (fail)
 by_cases hk:K1=K2
 ·have hkk:(K1 != K2)=false:=by simpa using hk
  have hr:Hid (R=(0,⟨#[]⟩)):=anc (by rw [HR4.out,if_pos hk])
  clear hk HR4
  go_quiet (fail)
  go_wp2_with fail
  refine ano (jv rfl rfl (rQ HEY.out)) rfl ?_
  exact ⟨by rw [hr.out],aQ (below_drewN BV.out _) (Nat.le_succ _)⟩
 ·have hkk:(K1 != K2)=true:=by simpa using hk
  have hr:Hid (R=(22,sl)):=anc (by rw [HR4.out,if_neg hk])
  clear hk HR4
  go_quiet (fail)
  go_wp2_with fail
  refine ano (jv rfl rfl (rQ HEY.out)) rfl ?_
  exact ⟨by rw [hr.out],aQ (below_drewN BV.out _) (Nat.le_succ _)⟩
theorem IV {a b:List C} {left right:List ByteArray} {n m:Nat} (h:n<m):lu a b left right n (m-n)=if (wZ a b left right n).1=0 then lu a b left right (n+1) (m-(n+1)) else wZ a b left right n:=by
 obtain ⟨q,hq⟩:∃ q,m-n=q+1:=⟨m-n-1,by omega⟩
 rw [hq,lu,show m-(n+1)=q by omega]
theorem LH {right:List ByteArray} {acc l:List C} {k:Nat} {x:C} (h:l[k]?=some x):jO right acc (l.drop k)=if Gi right x.nm=true then jO right acc (l.drop (k+1)) else if df acc x.nm=true then je 21 x.nm else jO right (acc++[x]) (l.drop (k+1)):=by
 obtain ⟨h1,e1⟩:=List.getElem?_eq_some_iff.1 h
 rw [List.drop_eq_getElem_cons h1,e1,jO]
theorem PE {right:List ByteArray} {acc l:List C} {k:Nat} (h:l.length≤k):jO right acc (l.drop k)=eG acc:=by
 rw [List.drop_of_length_le h,jO]
theorem SI (p:P)(a:PA)(w:World)(hA:jS w (fun k=>k<w.heap.size) p a)(hlc:p.left.length≤a.lc)(hrc:p.right.length≤a.rc)(xH:p.left.length≤600)(nN:p.right.length≤600)
 (A B:Option Addr)(c d:Nat)(la lb:List C)(hla:la.length≤1000)(hlb:lb.length≤1000)(V6:kG w w.heap.size A la)(V7:kG w w.heap.size B lb) :
 Calls Tryz.prog 49 #[p.val a,.slice A la.length c,.slice B lb.length d] w fun e w'=>xe (fun k=>w.heap.size≤k∧k<w'.heap.size) (uQ la lb p.left p.right) e w'∧Below w.heap.size w w':=by
 have BX:=anc (fun w' (hb:Below w.heap.size w w')(n:Nat) hn1 hn2=>SG p a w' ((hA.kept (fun k hk=>hb.block k hk)).mono fun k hk=>anp hk hb.size) hlc hrc n hn1 hn2 xH nN A B c d la lb (by omega) (by omega) ((V6.below hb).more hb.size) ((V7.below hb).more hb.size))
 obtain ⟨k,nm,ex,cols,left,right,ag,kids⟩:=p
 obtain ⟨⟨pe,pc,pl,pr',pg,l1,l2,l3,l4,l5⟩,pk⟩:=hA
 simp only [P.val,P.k,P.nm,P.ex,P.cols,P.left,P.right,P.ag,P.kids] at pl pr' hlc hrc xH nN BX ⊢
 obtain ⟨ea,ec,ca,cc,la',lc,ra,rc,ga,gc,ka,kc⟩:=a
 simp only at pl pr' hlc hrc BX ⊢
 obtain ⟨R,hR⟩:∃ R,R=uQ la lb left right:=⟨_,rfl⟩
 rw [←hR]
 unfold uQ at hR
 have HKR:=anc (fun s w' (hb:Below w.heap.size w w')=>oH ra rc right (by omega) s w' (pr'.kept (w':=w') (fun k hk=>hb.block k hk) |>.mono fun k hk=>anp hk hb.size))
 have HCA:=anc V6
 have HCB:=anc V7
 have HR:=anc hR
 clear pe pc pl pr' pg pk l1 l2 l3 l4 l5 V6 V7 hR
 generalize hm1:ex.length=m1 at *
 generalize hm2:cols.length=m2 at *
 generalize KU:left.length=m3 at *
 generalize hm4:right.length=m4 at *
 generalize Yt:ag.length=m5 at *
 generalize KD:kids.length=m6 at *
 generalize hna:la.length=na at *
 generalize hnb:lb.length=nb at *
 have SK:=anc hna
 have HNB:=anc hnb
 clear hm1 hm2 KU hm4 Yt KD hna hnb
 obtain ⟨w0,xE⟩:∃ w0,w0=w.alloc (.cells #[.int .i64 k,.string nm,.slice ea m1 ec,.slice ca m2 cc,.slice la' m3 lc,.slice ra m4 rc,.slice ga m5 gc,.slice ka m6 kc] 27):=⟨_,rfl⟩
 have hb0:Below w.heap.size w w0:=by rw [xE];exact (anl _ _).alloc (ank _) _
 have hs0:w0.heap.size=w.heap.size+1:=by rw [xE];simp
 have hx0:w0.heap[w.heap.size]?=some (.cells #[.int .i64 k,.string nm,.slice ea m1 ec,.slice ca m2 cc,.slice la' m3 lc,.slice ra m4 rc,.slice ga m5 gc,.slice ka m6 kc] 27 (0,0)):=by rw [xE];exact anm w _
 obtain ⟨w1,aK⟩:∃ w1,w1=w0.alloc (.cells #[.int .i64 0,.string ⟨#[]⟩] 61):=⟨_,rfl⟩
 have hb1:Below w0.heap.size w0 w1:=by rw [aK];exact (anl _ _).alloc (ank _) _
 have hs1:w.heap.size+1<w1.heap.size:=by rw [aK];simp;omega
 have gU:Hid (w1.heap[w.heap.size]?=some (.cells #[.int .i64 k,.string nm,.slice ea m1 ec,.slice ca m2 cc,.slice la' m3 lc,.slice ra m4 rc,.slice ga m5 gc,.slice ka m6 kc] 27 (0,0))):=anc ((hb1.block _ (by omega)).trans hx0)
 have LG:Hid (w1.heap[w.heap.size+1]?=some (.cells #[.int .i64 0,.string ⟨#[]⟩] 61 (0,0))):=anc (by rw [aK,←hs0];exact anm w0 _)
 have HW1:=anc (show w1=(w.alloc (.cells #[.int .i64 k,.string nm,.slice ea m1 ec,.slice ca m2 cc,.slice la' m3 lc,.slice ra m4 rc,.slice ga m5 gc,.slice ka m6 kc] 27)).alloc (.cells #[.int .i64 0,.string ⟨#[]⟩] 61) by rw [aK,xE])
 have HB1:=anc (hb0.trans (hb1.mono (by omega)))
 clear xE hb0 hs0 hx0 aK hb1
 obtain ⟨i0,hi,hz0,hz1,hz2⟩:=info_parts xg
 obtain ⟨d0,d1,d2,d3,d4,d5,d6,d7,_,_,_,_,_,_,_,_⟩:=az gU.out
 obtain ⟨⟨r0,r1⟩,g0,g1⟩:=cell2 LG.out
 by_cases hne:m3=m4
 rotate_left
 ·have h1:((m3:Int) != (m4:Int))=true:=by simp;omega
  have hr:Hid (R=je 23 ⟨#[]⟩):=anc (by rw [HR.out,if_pos (.inl hne)])
  clear hne HR
  go_enter Tryz.func49,Tryz.ntmps49
  go_upto_region 1 with (fail)
  rw [←HW1.out]
  go_wp2_with fail
  refine ano (aP rfl rfl rfl (aY LG.out)) rfl ?_
  exact ⟨fC (by decide) hr.out rfl,aQ HB1.out (Nat.le_succ _)⟩
 subst hne
 by_cases h0:m3=0
 ·subst h0
  have hr:Hid (R=je 23 ⟨#[]⟩):=anc (by rw [HR.out,if_pos (.inr rfl)])
  clear HR
  go_enter Tryz.func49,Tryz.ntmps49
  go_upto_region 1 with (fail)
  rw [←HW1.out]
  go_wp2_with fail
  refine ano (aP rfl rfl rfl (aY LG.out)) rfl ?_
  exact ⟨fC (by decide) hr.out rfl,aQ HB1.out (Nat.le_succ _)⟩
 have h0':((m3:Int)==0)=false:=by simp;omega
 have HR2:Hid (R=if (lu la lb left right 0 (m3-0)).1=0 then jO right la lb else ([],lu la lb left right 0 (m3-0))):=anc (by
  rw [HR.out,if_neg (by omega),Nat.sub_zero])
 clear HR h0
 go_enter Tryz.func49,Tryz.ntmps49
 go_upto_region 1 with (fail)
 rw [←HW1.out]
 go_upto_region 4 with (fail)
 clear d0 d1 d2 d3 d4 d5 d6 d7 r0 r1 g0 g1
 go_loopw [30] (fun i wr=>∃ k:Nat,k≤m3∧i=.int .i64 k∧Below w1.heap.size w1 wr∧Hid (lu la lb left right 0 (m3-0)=lu la lb left right k (m3-k))) (fun i _=>m3-(intOf i).toNat)
 case atStart=>exact ⟨0,Nat.zero_le _,rfl,anl _ _,anc rfl⟩
 case round =>
  obtain ⟨j,hj,rfl,hb,HL⟩:=hrel
  have HB:=anc hb
  have hs:=hb.size
  have dC:=anc (HB1.out.trans (hb.mono (by omega)))
  have yT:=anc ((hb.block w.heap.size (by omega)).trans gU.out)
  have Y9:=anc ((hb.block (w.heap.size+1) (by omega)).trans LG.out)
  clear hb
  obtain ⟨d0,d1,d2,d3,d4,d5,d6,d7,_,_,_,_,_,_,_,_⟩:=az yT.out
  by_cases hlt:j<m3
  ·have hst:=anc (HL.out.trans (IV hlt))
   have HCP:=anc (BX.out wr dC.out j hlt hlt)
   obtain ⟨Q,hQ⟩:∃ Q,Q=wZ la lb left right j:=⟨_,rfl⟩
   rw [←hQ] at hst HCP
   obtain ⟨qw,qn⟩:=Q
   simp only at HCP hst
   clear hQ HL
   go_wp2_with fail
   refine (HCP.out).mono ?_
   rintro e w3 ⟨rfl,hb3⟩
   have HB3:=anc (HB.out.trans (hb3.mono hs))
   have hs3:=HB3.out.size
   obtain ⟨wx,dN⟩:∃ wx,wx=w3.alloc (.cells #[.int .i64 qw,.string qn] 61):=⟨_,rfl⟩
   have hbx:Below w3.heap.size w3 wx:=by rw [dN];exact (anl _ _).alloc (ank _) _
   have hnx:wx.heap[w3.heap.size]?=some (.cells #[.int .i64 qw,.string qn] 61 (0,0)):=by rw [dN];exact anm w3 _
   have iJ:=anc (HB3.out.trans (hbx.mono hs3))
   have SL:=anc (HB1.out.trans (iJ.out.mono (by omega)))
   have HEX:=anc ((iJ.out.block (w.heap.size+1) (by omega)).trans LG.out)
   have jM:=anc dN
   have Aa:=anc hnx
   clear dN hbx hnx hb3 d0 d1 d2 d3 d4 d5 d6 d7
   obtain ⟨⟨n0,n1⟩,_,_⟩:=cell2 Aa.out
   obtain ⟨⟨r0,r1⟩,g0,g1⟩:=cell2 HEX.out
   go_upto_region 7 with (fail)
   rw [←jM.out]
   by_cases hq:qw=0
   ·subst hq
    have HL2:Hid (lu la lb left right 0 (m3-0)=lu la lb left right (j+1) (m3-(j+1))):=anc (by rw [hst.out,if_pos rfl])
    clear hst
    go_wp2_with fail
    go_roundw
    case rel=>exact ⟨j+1,by omega,by go_num,iJ.out,HL2⟩
    case measure=>simp [intOf];omega
   ·have hq':(qw != 0)=true:=by simpa using hq
    have HL2:Hid (R=je qw qn):=anc (by rw [HR2.out,hst.out,if_neg hq,if_neg hq];rfl)
    clear hst
    go_upto_region 8 with (fail)
    go_region
    all_goals
     go_wp2_with fail
     refine ano (aP rfl rfl rfl (kD HEX.out)) rfl ?_
     exact ⟨fC hq HL2.out rfl,(aQ SL.out (Nat.le_succ _)).drew⟩
  ·obtain rfl:j=m3:=by omega
   have HL2:Hid (R=jO right la lb):=anc (by
    rw [HR2.out,HL.out,Nat.sub_self,lu]
    exact if_pos rfl)
   have jq:=anc (cloneCols A c la wr (S:=fun k=>k<wr.heap.size) (by rcases ((HCA.out.below dC.out).more dC.out.size) with h | ⟨b,o,h1,h2,h3⟩;exact .inl h;exact .inr ⟨b,o,h1,h2,h3⟩) (fun k hk=>hk) (by rw [SK.out];omega))
   rw [SK.out] at jq
   clear HL HR2
   go_wp2_with fail
   refine (jq.out).mono ?_
   rintro e w3 ⟨⟨v3,rfl,hown3⟩,hb3⟩
   have HB3:=anc (HB.out.trans (hb3.mono hs))
   have hs3:=HB3.out.size
   have LC:=anc (HB1.out.trans (HB3.out.mono (by omega)))
   have mP:=anc ((HB3.out.block w.heap.size (by omega)).trans gU.out)
   have SH:=anc ((HB3.out.block (w.heap.size+1) (by omega)).trans LG.out)
   obtain ⟨A3,c3,rfl,hc3,_⟩:=pz (S:=fun k=>True) (by rw [SK.out];exact hown3) (fun _ _ _ _=>trivial)
   rw [SK.out] at hown3 ⊢
   have aeT:=anc (own_base hown3 hs)
   have hwr:wr.heap.size≤w3.heap.size:=hb3.size
   clear hb3 hown3 hc3 d0 d1 d2 d3 d4 d5 d6 d7
   go_wp2_with fail
   go_loopw [10,47] (fun v i wr=>∃ (k:Nat)(A':Option Addr)(c':Nat)(acc:List C),k≤nb∧i=.int .i64 k∧acc.length≤na+k∧v=.slice A' acc.length c'∧wr.ownsRow w1.heap.size 42 2 (.slice A' acc.length c') acc.length (gI acc)∧Below w1.heap.size w1 wr∧Hid (R=jO right acc (lb.drop k))) (fun _ i _=>nb-(intOf i).toNat)
   case atStart=>exact ⟨0,A3,c3,la,Nat.zero_le _,rfl,by rw [SK.out];omega,by rw [SK.out],by rw [SK.out];exact aeT.out,HB3.out,by simpa using HL2⟩
   case round =>
    obtain ⟨j,A',c',acc,hj,rfl,hal,rfl,hown,hb,HL⟩:=hrel
    have HO:=anc hown
    have HB:=anc hb
    have hs:=hb.size
    have dC:=anc (HB1.out.trans (hb.mono (by omega)))
    have yT:=anc ((hb.block w.heap.size (by omega)).trans gU.out)
    have Y9:=anc ((hb.block (w.heap.size+1) (by omega)).trans LG.out)
    obtain ⟨A4,c4,e4,hc4,hCS⟩:=pz (S:=fun k=>w1.heap.size≤k∧k<wr.heap.size) HO.out (fun g h1 h2 _=>⟨h1,h2⟩)
    obtain ⟨rfl,rfl⟩:A'=A4∧c'=c4:=by injection e4 with e5 _ e6;exact ⟨e5,e6⟩
    have Pz:=anc hCS
    have VD:=anc hc4
    have hacc:acc.length≤2000:=by omega
    have akd:=anc hacc
    clear hown hb e4 hCS hc4 HL2
    obtain ⟨d0,d1,d2,d3,d4,d5,d6,d7,_,_,_,_,_,_,_,_⟩:=az yT.out
    by_cases hlt:j<nb
    ·obtain ⟨x,hx⟩:∃ x,lb[j]?=some x:=⟨_,anr (by rw [HNB.out];exact hlt)⟩
     have hst:=anc (HL.out.trans (LH hx))
     obtain ⟨b,o,rfl,hbl,z0,z1⟩:=HCB.out.cu hx
     have y0:=(dC.out.cell hbl).trans z0
     have y1:=(dC.out.cell hbl).trans z1
     obtain ⟨wx,dN⟩:∃ wx,wx=wr.alloc (.cells #[.string x.nm,.int .i64 x.k] 42):=⟨_,rfl⟩
     have hbx:Below wr.heap.size wr wx:=by rw [dN];exact (anl _ _).alloc (ank _) _
     have hnx:wx.heap[wr.heap.size]?=some (.cells #[.string x.nm,.int .i64 x.k] 42 (0,0)):=by rw [dN];exact anm wr _
     have iJ:=anc (HB.out.trans (hbx.mono hs))
     have SL:=anc (HB1.out.trans (iJ.out.mono (by omega)))
     have HXX:=anc ((iJ.out.block w.heap.size (by omega)).trans gU.out)
     have HEX:=anc ((iJ.out.block (w.heap.size+1) (by omega)).trans LG.out)
     have HKX:=anc (HKR.out x.nm wx SL.out)
     have KE:=anc (Ba A' c' acc (by omega) x.nm wx ((Pz.out.kept fun k hk=>hbx.block k hk.2).to fun k hk=>anp hk.2 hbx.size))
     have YZ:=anc (own_below HO.out hbx)
     have jM:=anc dN
     have Aa:=anc hnx
     have hxs:wr.heap.size<wx.heap.size:=(Array.getElem?_eq_some_iff.1 hnx).1
     obtain ⟨xn,xk⟩:=x
     simp only at y0 y1 Aa jM hst KE HKX
     generalize hz:Gi right xn=z at *
     generalize hf:df acc xn=f at *
     clear z0 z1 hx dN hbx hnx hz hf HL d0 d1 d2 d3 d4 d5 d6 d7
     obtain ⟨⟨n0,n1⟩,_,_⟩:=cell2 Aa.out
     obtain ⟨d0,d1,d2,d3,d4,d5,d6,d7,_,_,_,_,_,_,_,_⟩:=az HXX.out
     obtain ⟨⟨r0,r1⟩,g0,g1⟩:=cell2 HEX.out
     generalize Gu:acc.length=al at *
     have uK:=anc Gu
     clear Gu
     go_upto_region 14 with (fail)
     rw [←jM.out]
     cases z
     rotate_left
     ·have KF:Hid (R=jO right acc (lb.drop (j+1))):=anc (by rw [hst.out,if_pos rfl])
      clear hst
      go_wp2_with fail
      refine (HKX.out).mono ?_
      rintro e w4 ⟨rfl,hw4⟩
      subst hw4
      go_wp2_with fail
      go_roundw
      case rel=>exact ⟨j+1,A',c',acc,by omega,by go_num,by rw [uK.out];omega,by rw [uK.out],by rw [uK.out];exact YZ.out,iJ.out,KF⟩
      case measure=>simp [intOf];omega
     have hst2:Hid (R=if f=true then je 21 xn else jO right (acc++[⟨xn,xk⟩]) (lb.drop (j+1))):=anc (by rw [hst.out,if_neg (by decide)])
     clear hst
     go_wp2_with fail
     refine (HKX.out).mono ?_
     rintro e w4 ⟨rfl,hw4⟩
     subst hw4
     go_wp2_with fail
     refine (KE.out).mono ?_
     rintro e w5 ⟨rfl,hb5⟩
     have fP:=anc (iJ.out.trans (hb5.mono iJ.out.size))
     have aeU:=anc (HB1.out.trans (fP.out.mono (by omega)))
     have Oe:=anc ((hb5.block wr.heap.size hxs).trans Aa.out)
     have Lj:=anc ((fP.out.block (w.heap.size+1) (by omega)).trans LG.out)
     have fV:=anc (own_below YZ.out hb5)
     have hs5:=fP.out.size
     clear hb5 n0 n1 r0 r1 g0 g1 d0 d1 d2 d3 d4 d5 d6 d7
     obtain ⟨⟨n0,n1⟩,_,_⟩:=cell2 Oe.out
     obtain ⟨⟨r0,r1⟩,g0,g1⟩:=cell2 Lj.out
     cases f
     ·have KF:Hid (R=jO right (acc++[⟨xn,xk⟩]) (lb.drop (j+1))):=anc (by rw [hst2.out,if_neg (by decide)])
      clear hst2
      go_wp2_with (at_builtin;refine wpList_append_lies _ rfl _ _ 29 rfl w1.heap.size 42 i0 _ 2 24 Tryz.underlying29 hi hz0 hz1 hz2 rfl (by decide) (.slice A' al c') al (gI acc) rfl (fV.out.alloc _) ⟨w5.heap.size,0,none⟩ 1 1 [.string xn,.int .i64 xk] rfl rfl ?c1 ?c2 (by decide) ?c3 ?c4 ?c5 _ rfl ?_)
      case c1=>exact World.news_of_block (anm w5 _)
      case c2=>intro u hu;simp only [List.mem_cons,List.not_mem_nil,or_false] at hu;rcases hu with rfl | rfl <;> rfl
      case c3=>unfold maxLen;omega
      case c4=>omega
      case c5=>simp;omega
      intro g' cap w6 hown hgrow hat Za
      have nU:=anc hown
      have iP:=anc ((fP.out.alloc (by omega) (.cells #[.string xn,.int .i64 xk] 42)).grown hgrow (by simp;omega) (fun k e=>(fV.out.lt k e).1))
      clear hown hgrow hat
      go_wp2_with fail
      go_roundw
      case rel=>exact ⟨j+1,some ⟨g',0,none⟩,cap,acc++[⟨xn,xk⟩],by omega,by go_num,by rw [List.length_append,uK.out];simp;omega,by rw [List.length_append,uK.out];rfl,by rw [List.length_append,uK.out,jw,mX];exact nU.out,iP.out,KF⟩
      case measure=>simp [intOf];omega
     ·have KF:Hid (R=je 21 xn):=anc (by rw [hst2.out,if_pos rfl])
      clear hst2
      go_upto_region 16 with (fail)
      go_region
      all_goals
       go_wp2_with fail
       refine ano (aP rfl rfl rfl (kD Lj.out)) rfl ?_
       exact ⟨fC (by decide) KF.out rfl,(aQ aeU.out (Nat.le_succ _)).drew⟩
    ·obtain rfl:j=nb:=by omega
     have KF:Hid (R=eG acc):=anc (by rw [HL.out,PE (by rw [HNB.out];exact ank _)])
     have EX:=anc (rP A' c' acc (by omega) VD.out wr Pz.out (fun k hk=>hk.2))
     rw [←KF.out] at EX
     clear HL KF
     generalize Gu:acc.length=al at *
     clear Gu
     go_wp2_with fail
     refine (EX.out).mono ?_
     rintro r w4 ⟨⟨A9,n9,c9,rfl,ET⟩,hb4⟩
     have IC:=anc ET
     have uJ:=anc (dC.out.trans (hb4.mono dC.out.size))
     have PG:=anc ((hb4.block (w.heap.size+1) (by omega)).trans Y9.out)
     have hs4:=hb4.size
     clear hb4 ET
     obtain ⟨⟨r0,r1⟩,g0,g1⟩:=cell2 PG.out
     go_wp2_with fail
     refine ano (aP rfl rfl rfl (aY PG.out)) rfl ?_
     refine ⟨⟨A9,n9,c9,rfl,fun h=>?_⟩,aQ uJ.out (Nat.le_succ _)⟩
     obtain ⟨h1,h2,h3⟩:=IC.out h
     refine ⟨h1,h2,(h3.kept fun k hk=>iC (by omega)).mono fun k hk=>⟨by omega,by have:=hk.2;simp [World.setCell];omega⟩⟩
inductive E.Fine:E→Prop
 | mk (k:Int)(s:ByteArray)(n:Int)(l:List E)(h1:-9223372036854775808≤n)(h2:n≤9223372036854775807)(h3:s.size≤1048576)(h:∀ e∈l,E.Fine e):E.Fine (.mk k s n l)
inductive E.Texts:E→Prop
 | mk (k:Int)(s:ByteArray)(n:Int)(l:List E)(h:k=3→s.size≤40)(hk:∀ e∈l,E.Texts e):E.Texts (.mk k s n l)
def yV:List Value:=eH.map fun l=>.string ⟨l.toArray⟩
theorem toList_mk (l:List UInt8):(ByteArray.mk l.toArray).toList=l:=by rw [ByteArray.toList_eq]
theorem SN (k:Nat)(h:k<23):∃ x:ByteArray,yV[k]?=some (.string x)∧eH[k]?=some x.toList:=by
 have hl:eH.length=23:=rfl
 have e:eH[k]?=some (eH[k]'(by omega)):=anr (by omega)
 refine ⟨⟨(eH[k]'(by omega)).toArray⟩,?_,?_⟩
 ·rw [yV,List.getElem?_map,e];rfl
 ·rw [toList_mk];exact e
def SQ (s:ByteArray)(l:List (List UInt8)):Bool:=l.any fun x=>s.toList==x
theorem PH (s:ByteArray)(k:Nat)(x:List UInt8)(h:eH[k]?=some x):SQ s (eH.drop k)=((s.toList==x) || SQ s (eH.drop (k+1))):=by
 have hlt:=(List.getElem?_eq_some_iff.1 h).1
 have hx:=(List.getElem?_eq_some_iff.1 h).2
 rw [List.drop_eq_getElem_cons hlt,hx]
 rfl
def jQ (s:ByteArray):Bool:=if yI s then false else if ru s.data.toList then (decide (1≤(s.size:Int))&&decide ((s.size:Int)≤12)) else false
theorem IW (s:ByteArray):jQ s=nameB s:=by
 have h1:s.toList.isEmpty=!decide (1≤(s.size:Int)):=by
  have:s.toList.length=s.size:=by rw [ByteArray.toList_eq];rfl
  cases h:s.toList with
  | nil=>rw [h] at this;simp at this;simp [←this]
  | cons a l=>rw [h] at this;simp at this;simp;omega
 unfold jQ nameB
 rw [h1]
 cases yI s <;> cases ru s.data.toList <;> simp
 by_cases h2:s.size≤12
 ·have:(s.size:Int)≤12:=by omega
  simp [h2,this]
 ·have:¬(s.size:Int)≤12:=by omega
  simp [h2,this]
theorem rX (s:ByteArray)(hs:s.size≤9223372036854775807)(w:World):Calls Tryz.prog 126 #[.string s] w fun e w'=>e=.returned (.bool (nameB s))∧Below w.heap.size w w':=by
 rw [←IW]
 obtain ⟨W1,hW1⟩:∃ W1,W1=w.alloc (.cells yV.toArray 9):=⟨_,rfl⟩
 have HW:Hid (W1=w.alloc (.cells yV.toArray 9)):=anc hW1
 have HB:Hid (Below w.heap.size w W1):=anc (by rw [hW1];exact (anl _ _).alloc (ank _) _)
 have hcell:Hid (∀ k x,yV[k]?=some x→W1.cell? ⟨w.heap.size,k,none⟩=some x):=anc fun k x hx=>by
  have hh:W1.heap[w.heap.size]?=some (.cells yV.toArray 9):=by rw [hW1];exact anm w _
  simp only [World.cell?,hh]
  simpa using hx
 clear hW1
 go_enter Tryz.func126,Tryz.ntmps126
 go_wp2_with fail
 go_loopw [4] (fun i wr=>∃ k:Nat,k≤23∧i=.int .i64 k∧wr=W1∧Hid (yI s=SQ s (eH.drop k))) (fun i _=>23-(intOf i).toNat)
 case atStart=>exact ⟨0,Nat.zero_le _,rfl,by rw [HW.out];rfl,rfl⟩
 case round =>
  obtain ⟨k,hk,rfl,rfl,hz⟩:=hrel
  by_cases hlt:k<23
  ·obtain ⟨x,hx1,hx2⟩:=SN k hlt
   have hc:=hcell.out k _ hx1
   have hi0:(0:Int)≤(k:Int):=by omega
   have hi1:(k:Int)<23:=by omega
   have hst:Hid (yI s=((s.toList==x.toList) || SQ s (eH.drop (k+1)))):=anc (by rw [hz.out,PH s k _ hx2])
   clear hz hx1 hx2
   by_cases he:(x.toList==s.toList)=true
   ·have he2:(s.toList==x.toList)=true:=by
     have:x.toList=s.toList:=by simpa using he
     simp [this]
    have hf:Hid (jQ s=false):=anc (by unfold jQ;rw [hst.out,he2];rfl)
    clear hst he2
    go_wp2_with fail
    go_ret
    exact ⟨by rw [hf.out];rfl,HB.out⟩
   ·have he':(x.toList==s.toList)=false:=by simpa using he
    have he2:(s.toList==x.toList)=false:=by
     cases h:(s.toList==x.toList)
     ·rfl
     ·have:s.toList=x.toList:=by simpa using h
      rw [this] at he'
      simp at he'
    have hst2:Hid (yI s=SQ s (eH.drop (k+1))):=anc (by rw [hst.out,he2,Bool.false_or])
    clear hst he2 he
    go_wp2_with fail
    go_roundw
    case rel=>exact ⟨k+1,by omega,by go_num,trivial,hst2⟩
    case measure=>simp [intOf];omega
  ·have hr:Hid (yI s=false):=anc (by rw [hz.out,List.drop_of_length_le (by show 23≤k;omega)];rfl)
   clear hz
   go_wp2_with fail
   go_loop [5] (fun i=>∃ k:Nat,k≤s.size∧i=.int .i64 k∧Hid (ru s.data.toList=ru (s.data.toList.drop k))) (fun i=>s.size-(intOf i).toNat)
   case atStart=>exact ⟨0,Nat.zero_le _,rfl,rfl⟩
   case round =>
    obtain ⟨k,hk,rfl,hz⟩:=hrel
    by_cases hlt:k<s.size
    ·have hst:=anc (hz.out.trans (Ey s k hlt))
     clear hz
     by_cases a1:97≤(s[k].toNat:Int)
     ·by_cases a2:(s[k].toNat:Int)≤122
      ·rw [decide_eq_true a1,decide_eq_true a2] at hst
       have hst':Hid (ru s.data.toList=ru (s.data.toList.drop (k+1))):=by
        have:=hst.out;rwa [Bool.and_self,Bool.true_and] at this
       clear hst
       go_wp2_with fail
       go_round
       case rel=>exact ⟨k+1,by omega,by go_num,hst'⟩
       case measure=>simp [intOf];omega
      ·have hst':Hid (jQ s=false):=by
        have:=hst.out
        rw [decide_eq_false a2,Bool.and_false,Bool.false_and] at this
        exact anc (by unfold jQ;rw [hr.out,this];rfl)
       clear hst
       go_wp2_with fail
       go_ret
       exact ⟨by rw [hst'.out];rfl,HB.out⟩
     ·have hst':Hid (jQ s=false):=by
       have:=hst.out
       rw [decide_eq_false a1,Bool.false_and,Bool.false_and] at this
       exact anc (by unfold jQ;rw [hr.out,this];rfl)
      clear hst
      go_wp2_with fail
      go_ret
      exact ⟨by rw [hst'.out];rfl,HB.out⟩
    ·have e:k=s.size:=by omega
     subst e
     have hf:Hid (jQ s=(decide (1≤(s.size:Int))&&decide ((s.size:Int)≤12))):=anc (by
      have:=hz.out
      rw [List.drop_of_length_le (by simp)] at this
      unfold jQ
      rw [hr.out,this]
      rfl)
     clear hz
     by_cases h1:1≤(s.size:Int)
     ·have d1:decide (1≤(s.size:Int))=true:=decide_eq_true h1
      rw [d1,Bool.true_and] at hf
      go_wp2_with fail
      go_ret
      exact ⟨by rw [hf.out];rfl,HB.out⟩
     ·have d1:decide (1≤(s.size:Int))=false:=decide_eq_false h1
      rw [d1,Bool.false_and] at hf
      go_wp2_with fail
      go_ret
      exact ⟨by rw [hf.out];rfl,HB.out⟩
theorem uq (s:ByteArray)(w:World):Calls Tryz.prog 127 #[.string s] w fun e w'=>e=.returned (.int .i64 (dB s.toList:Nat))∧w=w':=by
 rcases Io s.toList with h | h
 ·simp only [opsL,zQ,zS,zT,yK,yL,zU,Il,qP,zV,zW,qQ,Aw,List.mem_cons,List.not_mem_nil,or_false] at h
  rcases h with h | h | h | h | h | h | h | h | h | h | h | h
  all_goals
   obtain ⟨q,hq⟩:∃ q,q=dB s.toList:=⟨_,rfl⟩
   rw [←hq]
   rw [h] at hq
   change q=_ at hq
   simp only [dB,zQ,zS,zT,yK,yL,zU,Il,qP,zV,zW,qQ,Aw] at hq
   simp at hq
   subst hq
   go_enter Tryz.func127,Tryz.ntmps127
   go_wp2
   go_ret
   exact ⟨rfl,rfl⟩
 ·have hq:dB s.toList=0:=by
   have hne:∀ x∈opsL,s.toList≠x:=fun x hx e=>by have:=h x hx;rw [e] at this;simp at this
   simp only [opsL,List.mem_cons,List.not_mem_nil,or_false,forall_eq_or_imp,forall_eq] at hne
   obtain ⟨h0,h1,h2,h3,h4,h5,h6,h7,h8,h9,h10,h11⟩:=hne
   simp [dB,h0,h1,h2,h3,h4,h5,h6,h7,h8,h9,h10,h11]
  rw [hq]
  clear hq
  simp only [opsL,zQ,zS,zT,yK,yL,zU,Il,qP,zV,zW,qQ,Aw,List.mem_cons,List.not_mem_nil,or_false,forall_eq_or_imp,forall_eq] at h
  obtain ⟨h0,h1,h2,h3,h4,h5,h6,h7,h8,h9,h10,h11⟩:=h
  go_enter Tryz.func127,Tryz.ntmps127
  go_wp2
  go_ret
  exact ⟨rfl,rfl⟩
def xI (e:E):Prop:=e.Fine→∀ (A:Option Addr)(c:Nat)(w:World),eQ w w.heap.size A e.kids →
 Calls Tryz.prog 130 #[e.val A c] w fun r w'=>r=.returned (.bool (cZ e))∧Below w.heap.size w w'
theorem PI {l:List E} {k:Nat} {x:E} (hx:l[k]?=some x):jH (l.drop k)=(cZ x&&jH (l.drop (k+1))):=by
 obtain ⟨h1,e1⟩:=List.getElem?_eq_some_iff.1 hx
 rw [List.drop_eq_getElem_cons h1,e1,jH]
theorem IX (s:ByteArray)(n:Int)(l:List E)(hM0:∀ e∈l,xI e):xI (.mk 4 s n l):=by
 intro l9 A c w hA
 obtain ⟨_,_,_,_,_,_,_,hfk⟩:=l9
 have hM:=fun e he=>hM0 e he (hfk e he)
 clear hM0 hfk
 simp only [E.val,E.k,E.s,E.n,E.kids] at hA ⊢
 have hz:Hid (cZ (.mk 4 s n l)=(decide (0<dB s.toList)&&(dB s.toList==l.length&&(n==0&&jH l)))):=anc (by
  rw [cZ,if_neg (by decide),if_neg (by decide),if_neg (by decide),if_pos rfl])
 obtain ⟨m,em⟩:∃ m,m=l.length:=⟨_,rfl⟩
 have Hm:=anc em
 rw [←em] at hz ⊢
 obtain ⟨w1,aK⟩:∃ w1,w1=(w.alloc (.cells #[.int .i64 4,.string s,.int .i64 n,.slice A m c] 38)):=⟨_,rfl⟩
 have hb1:Below w.heap.size w w1:=by rw [aK];exact (anl _ _).alloc (ank _) _
 have HW1:=anc aK
 have hws:w1.heap.size=w.heap.size+1:=by rw [aK];simp
 have lY:Hid (∀ w',Below w1.heap.size w1 w'→w'.cell? ⟨w.heap.size,0,none⟩=some (.int .i64 4)∧w'.cell? ⟨w.heap.size,1,none⟩=some (.string s)∧w'.cell? ⟨w.heap.size,2,none⟩=some (.int .i64 n)∧w'.cell? ⟨w.heap.size,3,none⟩=some (.slice A m c)):=anc (by
  have h0:w1.cell? ⟨w.heap.size,0,none⟩=some (.int .i64 4)∧w1.cell? ⟨w.heap.size,1,none⟩=some (.string s)∧w1.cell? ⟨w.heap.size,2,none⟩=some (.int .i64 n)∧w1.cell? ⟨w.heap.size,3,none⟩=some (.slice A m c):=by rw [aK];simp
  intro w' hb
  have hlt:w.heap.size<w1.heap.size:=by omega
  exact ⟨(hb.cell (p:=⟨w.heap.size,0,none⟩) hlt).trans h0.1,(hb.cell (p:=⟨w.heap.size,1,none⟩) hlt).trans h0.2.1,(hb.cell (p:=⟨w.heap.size,2,none⟩) hlt).trans h0.2.2.1,(hb.cell (p:=⟨w.heap.size,3,none⟩) hlt).trans h0.2.2.2⟩)
 have LW:Hid (∀ w',Below w1.heap.size w1 w'→Below w.heap.size w w'):=anc fun w' h=>hb1.trans (h.mono (by omega))
 have HK:=anc ((hA.low hb1).more hb1.size)
 have hlen:=hA.len
 rw [←em] at hlen
 have hTk:Hid (∀ w',Below w1.heap.size w1 w'→Calls Tryz.prog 127 #[.string s] w' fun e w''=>e=.returned (.int .i64 (dB s.toList:Nat))∧Below w1.heap.size w1 w''):=anc fun w' h=>(uq s w').mono fun e w'' ⟨h1,h2⟩=>⟨h1,h2 ▸ h⟩
 have HM:=anc hM
 have T0:Hid (Below w1.heap.size w1 w1.drew):=anc (anl _ _).drew
 generalize cZ (.mk 4 s n l)=q at *
 generalize dB s.toList=cn at *
 clear hA hM aK hb1 em
 by_cases hn:n=0
 ·subst hn
  by_cases hc:cn=0
  ·subst hc
   obtain rfl:q=false:=by rw [hz.out];rfl
   clear hz HM HK Hm
   go_enter Tryz.func130,Tryz.ntmps130
   go_wp2_with fail
   rw [←HW1.out]
   clear HW1
   refine wp_region_held_drew (S:=fun w'=>w'.cell? ⟨w.heap.size,0,none⟩=some (.int .i64 4)∧w'.cell? ⟨w.heap.size,1,none⟩=some (.string s)∧w'.cell? ⟨w.heap.size,2,none⟩=some (.int .i64 0)∧w'.cell? ⟨w.heap.size,3,none⟩=some (.slice A m c)) (by kernel_rfl) (lY.out _ (Hid.out (by assumption))) (fun hHeld=>?_)
   refine wpAnyH_take (i:=0) (v:=.pointer (some ⟨w.heap.size,2,none⟩)) rfl (by kernel_rfl) (by kernel_rfl) (by kernel_rfl) (fun _ _ _ h=>h) (Or.inl ⟨by rfl,fun w1 hSw=>by (dsimp only at hSw;go_simp)⟩) (by assumption) ?_
   simp only [ane,anf,Act.put,anh,ani,anj]
   refine wpAnyH_take (i:=1) (v:=.int .i64 0) rfl (by kernel_rfl) (by kernel_rfl) (by kernel_rfl) (fun _ _ _ h=>h) (Or.inl ⟨by rfl,fun w1 hSw=>by (dsimp only at hSw;go_simp)⟩) (by assumption) ?_
   simp only [ane,ang,anf,Act.put,anh,ani,anj]
   refine wpAnyH_take (i:=2) (v:=.bool false) rfl (by kernel_rfl) (by kernel_rfl) (by kernel_rfl) (fun _ _ _ h=>h) (Or.inl ⟨by rfl,fun w1 hSw=>by (dsimp only at hSw;go_simp)⟩) (by assumption) ?_
   simp only [ane,ang,anf,Act.put,anh,ani,anj]
   refine wpAnyH_take (i:=3) (v:=.bool false) rfl (by kernel_rfl) (by kernel_rfl) (by kernel_rfl) (fun _ _ _ h=>h) (Or.inl ⟨by rfl,fun w1 hSw=>by (dsimp only at hSw;go_simp)⟩) (by assumption) ?_
   simp only [ane,ang,anf,Act.put,anh,ani,anj]
   refine wpAnyH_take (i:=4) (v:=.pointer (some ⟨w.heap.size,1,none⟩)) rfl (by kernel_rfl) (by kernel_rfl) (by kernel_rfl) (fun _ _ _ h=>h) (Or.inl ⟨by rfl,fun w1 hSw=>by (dsimp only at hSw;go_simp)⟩) (by assumption) ?_
   simp only [ane,ang,anf,Act.put,anh,ani,anj]
   refine wpAnyH_take (i:=5) (v:=.string s) rfl (by kernel_rfl) (by kernel_rfl) (by kernel_rfl) (fun _ _ _ h=>h) (Or.inl ⟨by rfl,fun w1 hSw=>by (dsimp only at hSw;go_simp)⟩) (by assumption) ?_
   simp only [ane,ang,anf,Act.put,anh,ani,anj]
   refine wpAnyH_ready (rs:=[6]) (by kernel_rfl) (by simp) ?_
   refine AllReadyH.cons rfl (fun K hK=>?_) AllReadyH.nil
   simp only [ane,ang,anf]
   go_simp
   refine (hTk.out _ (Hid.out (by assumption))).mono ?_
   rintro e w' ⟨rfl,bA⟩
   have U6:=anc bA
   clear bA  hHeld
   go_wp2_with fail
   refine hK.out _ _ (lY.out _ (Hid.out (by assumption))) (fun hHeld=>?_)
   clear hK K
   refine wpAnyH_take (i:=7) (v:=.bool true) rfl (by kernel_rfl) (by kernel_rfl) (by kernel_rfl) (fun _ _ _ h=>h) (Or.inl ⟨by rfl,fun w1 hSw=>by (dsimp only at hSw;go_simp)⟩) (by assumption) ?_
   simp only [ane,ang,anf,Act.put,anh,ani,anj]
   refine wpAnyH_take (i:=8) (v:=.bool true) rfl (by kernel_rfl) (by kernel_rfl) (by kernel_rfl) (fun _ _ _ h=>h) (Or.inl ⟨by rfl,fun w1 hSw=>by (dsimp only at hSw;go_simp)⟩) (by assumption) ?_
   simp only [ane,ang,anf,Act.put,anh,ani,anj]
   refine wpAnyH_take (i:=9) (v:=.bool true) rfl (by kernel_rfl) (by kernel_rfl) (by kernel_rfl) (fun _ _ _ h=>h) (Or.inl ⟨by rfl,fun w1 hSw=>by (dsimp only at hSw;go_simp)⟩) (by assumption) ?_
   simp only [ane,ang,anf,Act.put,anh,ani,anj]
   refine wpAnyH_take (i:=10) (v:=undef) rfl (by kernel_rfl) (by kernel_rfl) (by kernel_rfl) (fun _ _ _ h=>h) (Or.inr ⟨by kernel_rfl,rfl⟩) (by assumption) ?_
   simp only [ane,ang,anf,Act.put,anh,ani,anj]
   refine wpAnyH_take (i:=11) (v:=undef) rfl (by kernel_rfl) (by kernel_rfl) (by kernel_rfl) (fun _ _ _ h=>h) (Or.inr ⟨by kernel_rfl,rfl⟩) (by assumption) ?_
   simp only [ane,ang,anf,Act.put,anh,ani,anj]
   refine wpAnyH_take (i:=12) (v:=undef) rfl (by kernel_rfl) (by kernel_rfl) (by kernel_rfl) (fun _ _ _ h=>h) (Or.inr ⟨by kernel_rfl,rfl⟩) (by assumption) ?_
   simp only [ane,ang,anf,Act.put,anh,ani,anj]
   refine wpAnyH_take (i:=13) (v:=undef) rfl (by kernel_rfl) (by kernel_rfl) (by kernel_rfl) (fun _ _ _ h=>h) (Or.inr ⟨by kernel_rfl,rfl⟩) (by assumption) ?_
   simp only [ane,ang,anf,Act.put,anh,ani,anj]
   refine wpAnyH_take (i:=14) (v:=undef) rfl (by kernel_rfl) (by kernel_rfl) (by kernel_rfl) (fun _ _ _ h=>h) (Or.inr ⟨by kernel_rfl,rfl⟩) (by assumption) ?_
   simp only [ane,ang,anf,Act.put,anh,ani,anj]
   refine wpAnyH_take (i:=15) (v:=undef) rfl (by kernel_rfl) (by kernel_rfl) (by kernel_rfl) (fun _ _ _ h=>h) (Or.inr ⟨by kernel_rfl,rfl⟩) (by assumption) ?_
   simp only [ane,ang,anf,Act.put,anh,ani,anj]
   refine wpAnyH_take (i:=16) (v:=undef) rfl (by kernel_rfl) (by kernel_rfl) (by kernel_rfl) (fun _ _ _ h=>h) (Or.inr ⟨by kernel_rfl,rfl⟩) (by assumption) ?_
   simp only [ane,ang,anf,Act.put,anh,ani,anj]
   refine wpAnyH_take (i:=17) (v:=.bool true) rfl (by kernel_rfl) (by kernel_rfl) (by kernel_rfl) (fun _ _ _ h=>h) (Or.inl ⟨by rfl,fun w1 hSw=>by (dsimp only at hSw;go_simp)⟩) (by assumption) ?_
   simp only [ane,ang,anf,Act.put,anh,ani,anj]
   refine wpAnyH_done (by kernel_rfl) ?_ _
   go_wp2_with fail
   go_ret
   exact ⟨rfl,LW.out _ (Hid.out (by assumption))⟩
  have hc':((cn:Int)==0)=false:=by simp;omega
  by_cases hm:m=cn
  ·subst hm
   have hz2:Hid (q=jH l):=anc (by rw [hz.out,decide_eq_true (by omega)];simp)
   clear hz
   go_enter Tryz.func130,Tryz.ntmps130
   go_wp2_with fail
   rw [←HW1.out]
   clear HW1
   refine wp_region_held_drew (S:=fun w'=>w'.cell? ⟨w.heap.size,0,none⟩=some (.int .i64 4)∧w'.cell? ⟨w.heap.size,1,none⟩=some (.string s)∧w'.cell? ⟨w.heap.size,2,none⟩=some (.int .i64 0)∧w'.cell? ⟨w.heap.size,3,none⟩=some (.slice A m c)) (by kernel_rfl) (lY.out _ (Hid.out (by assumption))) (fun hHeld=>?_)
   refine wpAnyH_take (i:=0) (v:=.pointer (some ⟨w.heap.size,2,none⟩)) rfl (by kernel_rfl) (by kernel_rfl) (by kernel_rfl) (fun _ _ _ h=>h) (Or.inl ⟨by rfl,fun w1 hSw=>by (dsimp only at hSw;go_simp)⟩) (by assumption) ?_
   simp only [ane,anf,Act.put,anh,ani,anj]
   refine wpAnyH_take (i:=1) (v:=.int .i64 0) rfl (by kernel_rfl) (by kernel_rfl) (by kernel_rfl) (fun _ _ _ h=>h) (Or.inl ⟨by rfl,fun w1 hSw=>by (dsimp only at hSw;go_simp)⟩) (by assumption) ?_
   simp only [ane,ang,anf,Act.put,anh,ani,anj]
   refine wpAnyH_take (i:=2) (v:=.bool false) rfl (by kernel_rfl) (by kernel_rfl) (by kernel_rfl) (fun _ _ _ h=>h) (Or.inl ⟨by rfl,fun w1 hSw=>by (dsimp only at hSw;go_simp)⟩) (by assumption) ?_
   simp only [ane,ang,anf,Act.put,anh,ani,anj]
   refine wpAnyH_take (i:=3) (v:=.bool false) rfl (by kernel_rfl) (by kernel_rfl) (by kernel_rfl) (fun _ _ _ h=>h) (Or.inl ⟨by rfl,fun w1 hSw=>by (dsimp only at hSw;go_simp)⟩) (by assumption) ?_
   simp only [ane,ang,anf,Act.put,anh,ani,anj]
   refine wpAnyH_take (i:=4) (v:=.pointer (some ⟨w.heap.size,1,none⟩)) rfl (by kernel_rfl) (by kernel_rfl) (by kernel_rfl) (fun _ _ _ h=>h) (Or.inl ⟨by rfl,fun w1 hSw=>by (dsimp only at hSw;go_simp)⟩) (by assumption) ?_
   simp only [ane,ang,anf,Act.put,anh,ani,anj]
   refine wpAnyH_take (i:=5) (v:=.string s) rfl (by kernel_rfl) (by kernel_rfl) (by kernel_rfl) (fun _ _ _ h=>h) (Or.inl ⟨by rfl,fun w1 hSw=>by (dsimp only at hSw;go_simp)⟩) (by assumption) ?_
   simp only [ane,ang,anf,Act.put,anh,ani,anj]
   refine wpAnyH_ready (rs:=[6]) (by kernel_rfl) (by simp) ?_
   refine AllReadyH.cons rfl (fun K hK=>?_) AllReadyH.nil
   simp only [ane,ang,anf]
   go_simp
   refine (hTk.out _ (Hid.out (by assumption))).mono ?_
   rintro e w' ⟨rfl,bA⟩
   have U6:=anc bA
   clear bA  hHeld
   go_wp2_with fail
   refine hK.out _ _ (lY.out _ (Hid.out (by assumption))) (fun hHeld=>?_)
   clear hK K
   refine wpAnyH_take (i:=7) (v:=.bool false) rfl (by kernel_rfl) (by kernel_rfl) (by kernel_rfl) (fun _ _ _ h=>h) (Or.inl ⟨by rfl,fun w1 hSw=>by (dsimp only at hSw;go_simp)⟩) (by assumption) ?_
   simp only [ane,ang,anf,Act.put,anh,ani,anj]
   refine wpAnyH_take (i:=8) (v:=.bool false) rfl (by kernel_rfl) (by kernel_rfl) (by kernel_rfl) (fun _ _ _ h=>h) (Or.inl ⟨by rfl,fun w1 hSw=>by (dsimp only at hSw;go_simp)⟩) (by assumption) ?_
   simp only [ane,ang,anf,Act.put,anh,ani,anj]
   refine wpAnyH_take (i:=9) (v:=.bool false) rfl (by kernel_rfl) (by kernel_rfl) (by kernel_rfl) (fun _ _ _ h=>h) (Or.inl ⟨by rfl,fun w1 hSw=>by (dsimp only at hSw;go_simp)⟩) (by assumption) ?_
   simp only [ane,ang,anf,Act.put,anh,ani,anj]
   refine wpAnyH_take (i:=10) (v:=.pointer (some ⟨w.heap.size,3,none⟩)) rfl (by kernel_rfl) (by kernel_rfl) (by kernel_rfl) (fun _ _ _ h=>h) (Or.inl ⟨by rfl,fun w1 hSw=>by (dsimp only at hSw;go_simp)⟩) (by assumption) ?_
   simp only [ane,ang,anf,Act.put,anh,ani,anj]
   refine wpAnyH_take (i:=11) (v:=.slice A m c) rfl (by kernel_rfl) (by kernel_rfl) (by kernel_rfl) (fun _ _ _ h=>h) (Or.inl ⟨by rfl,fun w1 hSw=>by (dsimp only at hSw;go_simp)⟩) (by assumption) ?_
   simp only [ane,ang,anf,Act.put,anh,ani,anj]
   refine wpAnyH_take (i:=12) (v:=.int .i64 m) rfl (by kernel_rfl) (by kernel_rfl) (by kernel_rfl) (fun _ _ _ h=>h) (Or.inl ⟨by rfl,fun w1 hSw=>by (dsimp only at hSw;go_simp)⟩) (by assumption) ?_
   simp only [ane,ang,anf,Act.put,anh,ani,anj]
   refine wpAnyH_take (i:=13) (v:=.pointer (some ⟨w.heap.size,1,none⟩)) rfl (by kernel_rfl) (by kernel_rfl) (by kernel_rfl) (fun _ _ _ h=>h) (Or.inl ⟨by rfl,fun w1 hSw=>by (dsimp only at hSw;go_simp)⟩) (by assumption) ?_
   simp only [ane,ang,anf,Act.put,anh,ani,anj]
   refine wpAnyH_take (i:=14) (v:=.string s) rfl (by kernel_rfl) (by kernel_rfl) (by kernel_rfl) (fun _ _ _ h=>h) (Or.inl ⟨by rfl,fun w1 hSw=>by (dsimp only at hSw;go_simp)⟩) (by assumption) ?_
   simp only [ane,ang,anf,Act.put,anh,ani,anj]
   refine wpAnyH_ready (rs:=[15]) (by kernel_rfl) (by simp) ?_
   refine AllReadyH.cons rfl (fun K hK=>?_) AllReadyH.nil
   simp only [ane,ang,anf]
   go_simp
   refine (hTk.out _ (Hid.out (by assumption))).mono ?_
   rintro e w' ⟨rfl,bA⟩
   have U15:=anc bA
   clear bA  hHeld
   go_wp2_with fail
   refine hK.out _ _ (lY.out _ (Hid.out (by assumption))) (fun hHeld=>?_)
   clear hK K
   refine wpAnyH_take (i:=16) (v:=.bool false) rfl (by kernel_rfl) (by kernel_rfl) (by kernel_rfl) (fun _ _ _ h=>h) (Or.inl ⟨by rfl,fun w1 hSw=>by (dsimp only at hSw;go_simp)⟩) (by assumption) ?_
   simp only [ane,ang,anf,Act.put,anh,ani,anj]
   refine wpAnyH_take (i:=17) (v:=.bool false) rfl (by kernel_rfl) (by kernel_rfl) (by kernel_rfl) (fun _ _ _ h=>h) (Or.inl ⟨by rfl,fun w1 hSw=>by (dsimp only at hSw;go_simp)⟩) (by assumption) ?_
   simp only [ane,ang,anf,Act.put,anh,ani,anj]
   refine wpAnyH_done (by kernel_rfl) ?_ _
   go_wp2_with fail
   go_loopw [3] (fun i wr=>∃ k:Nat,k≤m∧i=.int .i64 k∧Below w1.heap.size w1 wr∧Hid (jH l=jH (l.drop k))) (fun i _=>m-(intOf i).toNat)
   case atStart=>exact ⟨0,Nat.zero_le _,rfl,Hid.out (by assumption),anc rfl⟩
   case round =>
    obtain ⟨k,hk,rfl,hb,hzl⟩:=hrel
    obtain ⟨b0,b1,b2,b3⟩:=lY.out wr hb
    have hs:=hb.size
    have HB:=anc hb
    by_cases hlt:k<m
    ·obtain ⟨x,hx⟩:∃ x,l[k]?=some x:=⟨_,anr (by rw [←Hm.out];exact hlt)⟩
     have hst:=anc (hzl.out.trans (PI hx))
     obtain ⟨bb,o,A',c',rfl,hbl,d1,d2,d3,d4,hKx⟩:=HK.out.cu wr hb k x hx
     have Bv:=HM.out x (anq hx)
     clear hx hzl hb
     obtain ⟨xk,xs,xn,xl⟩:=x
     simp only [E.k,E.s,E.n,E.kids] at d1 d2 d3 d4 hKx
     have hcl:=anc (Bv A' c' wr hKx)
     simp only [E.val,E.k,E.s,E.n,E.kids] at hcl
     clear Bv hKx
     generalize xl.length=xm at *
     cases hmx:cZ (.mk xk xs xn xl)
     ·rw [hmx] at hcl hst
      have hq:Hid (q=false):=anc (by rw [hz2.out,hst.out,Bool.false_and])
      clear hst hmx
      go_wp2_with fail
      refine (hcl.out).mono ?_
      rintro e w3 ⟨rfl,hb3⟩
      have HB3:=anc (HB.out.trans (hb3.mono hs))
      clear hb3 hcl
      go_wp2_with fail
      go_ret
      exact ⟨by rw [hq.out];rfl,LW.out _ HB3.out⟩
     ·rw [hmx] at hcl hst
      have hst2:Hid (jH l=jH (l.drop (k+1))):=anc (by rw [hst.out,Bool.true_and])
      clear hst hmx
      go_wp2_with fail
      refine (hcl.out).mono ?_
      rintro e w3 ⟨rfl,hb3⟩
      have HB3:=anc (HB.out.trans (hb3.mono hs))
      clear hb3 hcl
      go_wp2_with fail
      go_roundw
      case rel=>exact ⟨k+1,by omega,by go_num,HB3.out,hst2⟩
      case measure=>simp [intOf];omega
    ·obtain rfl:k=m:=by omega
     have hq:Hid (q=true):=anc (by rw [hz2.out,hzl.out,List.drop_of_length_le (by rw [←Hm.out];exact ank _)];rfl)
     clear hzl hb
     go_wp2_with fail
     go_ret
     exact ⟨by rw [hq.out];rfl,LW.out _ HB.out⟩
  ·have hm':((m:Int) != (cn:Int))=true:=by simp;omega
   obtain rfl:q=false:=by rw [hz.out,show (cn==m)=false by simpa using fun h=>hm h.symm];simp
   clear hz HM HK Hm
   go_enter Tryz.func130,Tryz.ntmps130
   go_wp2_with fail
   rw [←HW1.out]
   clear HW1
   refine wp_region_held_drew (S:=fun w'=>w'.cell? ⟨w.heap.size,0,none⟩=some (.int .i64 4)∧w'.cell? ⟨w.heap.size,1,none⟩=some (.string s)∧w'.cell? ⟨w.heap.size,2,none⟩=some (.int .i64 0)∧w'.cell? ⟨w.heap.size,3,none⟩=some (.slice A m c)) (by kernel_rfl) (lY.out _ (Hid.out (by assumption))) (fun hHeld=>?_)
   refine wpAnyH_take (i:=0) (v:=.pointer (some ⟨w.heap.size,2,none⟩)) rfl (by kernel_rfl) (by kernel_rfl) (by kernel_rfl) (fun _ _ _ h=>h) (Or.inl ⟨by rfl,fun w1 hSw=>by (dsimp only at hSw;go_simp)⟩) (by assumption) ?_
   simp only [ane,anf,Act.put,anh,ani,anj]
   refine wpAnyH_take (i:=1) (v:=.int .i64 0) rfl (by kernel_rfl) (by kernel_rfl) (by kernel_rfl) (fun _ _ _ h=>h) (Or.inl ⟨by rfl,fun w1 hSw=>by (dsimp only at hSw;go_simp)⟩) (by assumption) ?_
   simp only [ane,ang,anf,Act.put,anh,ani,anj]
   refine wpAnyH_take (i:=2) (v:=.bool false) rfl (by kernel_rfl) (by kernel_rfl) (by kernel_rfl) (fun _ _ _ h=>h) (Or.inl ⟨by rfl,fun w1 hSw=>by (dsimp only at hSw;go_simp)⟩) (by assumption) ?_
   simp only [ane,ang,anf,Act.put,anh,ani,anj]
   refine wpAnyH_take (i:=3) (v:=.bool false) rfl (by kernel_rfl) (by kernel_rfl) (by kernel_rfl) (fun _ _ _ h=>h) (Or.inl ⟨by rfl,fun w1 hSw=>by (dsimp only at hSw;go_simp)⟩) (by assumption) ?_
   simp only [ane,ang,anf,Act.put,anh,ani,anj]
   refine wpAnyH_take (i:=4) (v:=.pointer (some ⟨w.heap.size,1,none⟩)) rfl (by kernel_rfl) (by kernel_rfl) (by kernel_rfl) (fun _ _ _ h=>h) (Or.inl ⟨by rfl,fun w1 hSw=>by (dsimp only at hSw;go_simp)⟩) (by assumption) ?_
   simp only [ane,ang,anf,Act.put,anh,ani,anj]
   refine wpAnyH_take (i:=5) (v:=.string s) rfl (by kernel_rfl) (by kernel_rfl) (by kernel_rfl) (fun _ _ _ h=>h) (Or.inl ⟨by rfl,fun w1 hSw=>by (dsimp only at hSw;go_simp)⟩) (by assumption) ?_
   simp only [ane,ang,anf,Act.put,anh,ani,anj]
   refine wpAnyH_ready (rs:=[6]) (by kernel_rfl) (by simp) ?_
   refine AllReadyH.cons rfl (fun K hK=>?_) AllReadyH.nil
   simp only [ane,ang,anf]
   go_simp
   refine (hTk.out _ (Hid.out (by assumption))).mono ?_
   rintro e w' ⟨rfl,bA⟩
   have U6:=anc bA
   clear bA  hHeld
   go_wp2_with fail
   refine hK.out _ _ (lY.out _ (Hid.out (by assumption))) (fun hHeld=>?_)
   clear hK K
   refine wpAnyH_take (i:=7) (v:=.bool false) rfl (by kernel_rfl) (by kernel_rfl) (by kernel_rfl) (fun _ _ _ h=>h) (Or.inl ⟨by rfl,fun w1 hSw=>by (dsimp only at hSw;go_simp)⟩) (by assumption) ?_
   simp only [ane,ang,anf,Act.put,anh,ani,anj]
   refine wpAnyH_take (i:=8) (v:=.bool false) rfl (by kernel_rfl) (by kernel_rfl) (by kernel_rfl) (fun _ _ _ h=>h) (Or.inl ⟨by rfl,fun w1 hSw=>by (dsimp only at hSw;go_simp)⟩) (by assumption) ?_
   simp only [ane,ang,anf,Act.put,anh,ani,anj]
   refine wpAnyH_take (i:=9) (v:=.bool false) rfl (by kernel_rfl) (by kernel_rfl) (by kernel_rfl) (fun _ _ _ h=>h) (Or.inl ⟨by rfl,fun w1 hSw=>by (dsimp only at hSw;go_simp)⟩) (by assumption) ?_
   simp only [ane,ang,anf,Act.put,anh,ani,anj]
   refine wpAnyH_take (i:=10) (v:=.pointer (some ⟨w.heap.size,3,none⟩)) rfl (by kernel_rfl) (by kernel_rfl) (by kernel_rfl) (fun _ _ _ h=>h) (Or.inl ⟨by rfl,fun w1 hSw=>by (dsimp only at hSw;go_simp)⟩) (by assumption) ?_
   simp only [ane,ang,anf,Act.put,anh,ani,anj]
   refine wpAnyH_take (i:=11) (v:=.slice A m c) rfl (by kernel_rfl) (by kernel_rfl) (by kernel_rfl) (fun _ _ _ h=>h) (Or.inl ⟨by rfl,fun w1 hSw=>by (dsimp only at hSw;go_simp)⟩) (by assumption) ?_
   simp only [ane,ang,anf,Act.put,anh,ani,anj]
   refine wpAnyH_take (i:=12) (v:=.int .i64 m) rfl (by kernel_rfl) (by kernel_rfl) (by kernel_rfl) (fun _ _ _ h=>h) (Or.inl ⟨by rfl,fun w1 hSw=>by (dsimp only at hSw;go_simp)⟩) (by assumption) ?_
   simp only [ane,ang,anf,Act.put,anh,ani,anj]
   refine wpAnyH_take (i:=13) (v:=.pointer (some ⟨w.heap.size,1,none⟩)) rfl (by kernel_rfl) (by kernel_rfl) (by kernel_rfl) (fun _ _ _ h=>h) (Or.inl ⟨by rfl,fun w1 hSw=>by (dsimp only at hSw;go_simp)⟩) (by assumption) ?_
   simp only [ane,ang,anf,Act.put,anh,ani,anj]
   refine wpAnyH_take (i:=14) (v:=.string s) rfl (by kernel_rfl) (by kernel_rfl) (by kernel_rfl) (fun _ _ _ h=>h) (Or.inl ⟨by rfl,fun w1 hSw=>by (dsimp only at hSw;go_simp)⟩) (by assumption) ?_
   simp only [ane,ang,anf,Act.put,anh,ani,anj]
   refine wpAnyH_ready (rs:=[15]) (by kernel_rfl) (by simp) ?_
   refine AllReadyH.cons rfl (fun K hK=>?_) AllReadyH.nil
   simp only [ane,ang,anf]
   go_simp
   refine (hTk.out _ (Hid.out (by assumption))).mono ?_
   rintro e w' ⟨rfl,bA⟩
   have U15:=anc bA
   clear bA  hHeld
   go_wp2_with fail
   refine hK.out _ _ (lY.out _ (Hid.out (by assumption))) (fun hHeld=>?_)
   clear hK K
   refine wpAnyH_take (i:=16) (v:=.bool true) rfl (by kernel_rfl) (by kernel_rfl) (by kernel_rfl) (fun _ _ _ h=>h) (Or.inl ⟨by rfl,fun w1 hSw=>by (dsimp only at hSw;go_simp)⟩) (by assumption) ?_
   simp only [ane,ang,anf,Act.put,anh,ani,anj]
   refine wpAnyH_take (i:=17) (v:=.bool true) rfl (by kernel_rfl) (by kernel_rfl) (by kernel_rfl) (fun _ _ _ h=>h) (Or.inl ⟨by rfl,fun w1 hSw=>by (dsimp only at hSw;go_simp)⟩) (by assumption) ?_
   simp only [ane,ang,anf,Act.put,anh,ani,anj]
   refine wpAnyH_done (by kernel_rfl) ?_ _
   go_wp2_with fail
   go_ret
   exact ⟨rfl,LW.out _ (Hid.out (by assumption))⟩
 ·have hn':(n != 0)=true:=by simpa using hn
  have hn2:(n==0)=false:=by simpa using hn
  obtain rfl:q=false:=by rw [hz.out,hn2];simp
  clear hz HM HK Hm hn
  go_enter Tryz.func130,Tryz.ntmps130
  go_wp2_with fail
  rw [←HW1.out]
  clear HW1
  refine wp_region_held_drew (S:=fun w'=>w'.cell? ⟨w.heap.size,0,none⟩=some (.int .i64 4)∧w'.cell? ⟨w.heap.size,1,none⟩=some (.string s)∧w'.cell? ⟨w.heap.size,2,none⟩=some (.int .i64 n)∧w'.cell? ⟨w.heap.size,3,none⟩=some (.slice A m c)) (by kernel_rfl) (lY.out _ (Hid.out (by assumption))) (fun hHeld=>?_)
  refine wpAnyH_take (i:=0) (v:=.pointer (some ⟨w.heap.size,2,none⟩)) rfl (by kernel_rfl) (by kernel_rfl) (by kernel_rfl) (fun _ _ _ h=>h) (Or.inl ⟨by rfl,fun w1 hSw=>by (dsimp only at hSw;go_simp)⟩) (by assumption) ?_
  simp only [ane,anf,Act.put,anh,ani,anj]
  refine wpAnyH_take (i:=1) (v:=.int .i64 n) rfl (by kernel_rfl) (by kernel_rfl) (by kernel_rfl) (fun _ _ _ h=>h) (Or.inl ⟨by rfl,fun w1 hSw=>by (dsimp only at hSw;go_simp)⟩) (by assumption) ?_
  simp only [ane,ang,anf,Act.put,anh,ani,anj]
  refine wpAnyH_take (i:=2) (v:=.bool true) rfl (by kernel_rfl) (by kernel_rfl) (by kernel_rfl) (fun _ _ _ h=>h) (Or.inl ⟨by rfl,fun w1 hSw=>by (dsimp only at hSw;go_simp)⟩) (by assumption) ?_
  simp only [ane,ang,anf,Act.put,anh,ani,anj]
  refine wpAnyH_take (i:=3) (v:=.bool true) rfl (by kernel_rfl) (by kernel_rfl) (by kernel_rfl) (fun _ _ _ h=>h) (Or.inl ⟨by rfl,fun w1 hSw=>by (dsimp only at hSw;go_simp)⟩) (by assumption) ?_
  simp only [ane,ang,anf,Act.put,anh,ani,anj]
  refine wpAnyH_take (i:=4) (v:=undef) rfl (by kernel_rfl) (by kernel_rfl) (by kernel_rfl) (fun _ _ _ h=>h) (Or.inr ⟨by kernel_rfl,rfl⟩) (by assumption) ?_
  simp only [ane,ang,anf,Act.put,anh,ani,anj]
  refine wpAnyH_take (i:=5) (v:=undef) rfl (by kernel_rfl) (by kernel_rfl) (by kernel_rfl) (fun _ _ _ h=>h) (Or.inr ⟨by kernel_rfl,rfl⟩) (by assumption) ?_
  simp only [ane,ang,anf,Act.put,anh,ani,anj]
  refine wpAnyH_take (i:=6) (v:=undef) rfl (by kernel_rfl) (by kernel_rfl) (by kernel_rfl) (fun _ _ _ h=>h) (Or.inr ⟨by kernel_rfl,rfl⟩) (by assumption) ?_
  simp only [ane,ang,anf,Act.put,anh,ani,anj]
  refine wpAnyH_take (i:=7) (v:=undef) rfl (by kernel_rfl) (by kernel_rfl) (by kernel_rfl) (fun _ _ _ h=>h) (Or.inr ⟨by kernel_rfl,rfl⟩) (by assumption) ?_
  simp only [ane,ang,anf,Act.put,anh,ani,anj]
  refine wpAnyH_take (i:=8) (v:=.bool true) rfl (by kernel_rfl) (by kernel_rfl) (by kernel_rfl) (fun _ _ _ h=>h) (Or.inl ⟨by rfl,fun w1 hSw=>by (dsimp only at hSw;go_simp)⟩) (by assumption) ?_
  simp only [ane,ang,anf,Act.put,anh,ani,anj]
  refine wpAnyH_take (i:=9) (v:=.bool true) rfl (by kernel_rfl) (by kernel_rfl) (by kernel_rfl) (fun _ _ _ h=>h) (Or.inl ⟨by rfl,fun w1 hSw=>by (dsimp only at hSw;go_simp)⟩) (by assumption) ?_
  simp only [ane,ang,anf,Act.put,anh,ani,anj]
  refine wpAnyH_take (i:=10) (v:=undef) rfl (by kernel_rfl) (by kernel_rfl) (by kernel_rfl) (fun _ _ _ h=>h) (Or.inr ⟨by kernel_rfl,rfl⟩) (by assumption) ?_
  simp only [ane,ang,anf,Act.put,anh,ani,anj]
  refine wpAnyH_take (i:=11) (v:=undef) rfl (by kernel_rfl) (by kernel_rfl) (by kernel_rfl) (fun _ _ _ h=>h) (Or.inr ⟨by kernel_rfl,rfl⟩) (by assumption) ?_
  simp only [ane,ang,anf,Act.put,anh,ani,anj]
  refine wpAnyH_take (i:=12) (v:=undef) rfl (by kernel_rfl) (by kernel_rfl) (by kernel_rfl) (fun _ _ _ h=>h) (Or.inr ⟨by kernel_rfl,rfl⟩) (by assumption) ?_
  simp only [ane,ang,anf,Act.put,anh,ani,anj]
  refine wpAnyH_take (i:=13) (v:=undef) rfl (by kernel_rfl) (by kernel_rfl) (by kernel_rfl) (fun _ _ _ h=>h) (Or.inr ⟨by kernel_rfl,rfl⟩) (by assumption) ?_
  simp only [ane,ang,anf,Act.put,anh,ani,anj]
  refine wpAnyH_take (i:=14) (v:=undef) rfl (by kernel_rfl) (by kernel_rfl) (by kernel_rfl) (fun _ _ _ h=>h) (Or.inr ⟨by kernel_rfl,rfl⟩) (by assumption) ?_
  simp only [ane,ang,anf,Act.put,anh,ani,anj]
  refine wpAnyH_take (i:=15) (v:=undef) rfl (by kernel_rfl) (by kernel_rfl) (by kernel_rfl) (fun _ _ _ h=>h) (Or.inr ⟨by kernel_rfl,rfl⟩) (by assumption) ?_
  simp only [ane,ang,anf,Act.put,anh,ani,anj]
  refine wpAnyH_take (i:=16) (v:=undef) rfl (by kernel_rfl) (by kernel_rfl) (by kernel_rfl) (fun _ _ _ h=>h) (Or.inr ⟨by kernel_rfl,rfl⟩) (by assumption) ?_
  simp only [ane,ang,anf,Act.put,anh,ani,anj]
  refine wpAnyH_take (i:=17) (v:=.bool true) rfl (by kernel_rfl) (by kernel_rfl) (by kernel_rfl) (fun _ _ _ h=>h) (Or.inl ⟨by rfl,fun w1 hSw=>by (dsimp only at hSw;go_simp)⟩) (by assumption) ?_
  simp only [ane,ang,anf,Act.put,anh,ani,anj]
  refine wpAnyH_done (by kernel_rfl) ?_ _
  go_wp2_with fail
  go_ret
  exact ⟨rfl,LW.out _ (Hid.out (by assumption))⟩
theorem LJ (k:Int)(s:ByteArray)(n:Int)(l:List E)(h4:k≠4):xI (.mk k s n l):=by
 intro l9 A c w hA
 obtain ⟨_,_,_,_,_,_,hfs,_⟩:=l9
 simp only [E.val,E.k,E.s,E.n,E.kids] at hA ⊢
 have hb0:Below w.heap.size w (w.alloc (.cells #[.int .i64 k,.string s,.int .i64 n,.slice A l.length c] 38)):=(anl _ _).alloc (ank _) _
 have HB0:=anc hb0
 have hN:=anc (rX s (by omega))
 have hc:Hid True:=anc trivial
 have hC:Hid True:=anc trivial
 have hlen:=hA.len
 have hz:Hid (cZ (.mk k s n l)=if k=1 then nameB s&&(n==0&&l.length==0) else if k=2 then s.toList.isEmpty&&l.length==0
  else if k=3 then n==0&&l.length==0 else if k=4 then decide (0<dB s.toList)&&(dB s.toList==l.length&&(n==0&&jH l)) else false):=anc (by rw [cZ])
 generalize cZ (.mk k s n l)=q at *
 generalize nameB s=qn at *
 generalize dB s.toList=cn at *
 generalize jH l=ql at *
 generalize l.length=m at *
 clear hA hb0 hfs
 by_cases h1:k=1
 ·subst h1
  have hz1:Hid (q=(qn&&(n==0&&m==0))):=anc (by rw [hz.out,if_pos rfl])
  clear hz hc hC
  cases qn
  ·obtain rfl:q=false:=by rw [hz1.out];rfl
   go_enter Tryz.func130,Tryz.ntmps130
   go_wp2_with fail
   refine (hN.out _).mono ?_
   rintro e w' ⟨rfl,hbn⟩
   have KG:=anc (HB0.out.trans (hbn.mono (by simp)))
   have g2:=(hbn.cell (p:=⟨w.heap.size,2,none⟩) (by simp)).trans (by simp;rfl)
   have g3:=(hbn.cell (p:=⟨w.heap.size,3,none⟩) (by simp)).trans (by simp;rfl)
   clear hbn
   go_wp2_with fail
   go_ret
   exact ⟨rfl,KG.out⟩
  ·by_cases hn:n=0
   ·subst hn
    have hz2:Hid (q=((m:Int)==0)):=anc (by rw [hz1.out,oQ];simp)
    clear hz1
    go_enter Tryz.func130,Tryz.ntmps130
    go_wp2_with fail
    refine (hN.out _).mono ?_
    rintro e w' ⟨rfl,hbn⟩
    have KG:=anc (HB0.out.trans (hbn.mono (by simp)))
    have g2:=(hbn.cell (p:=⟨w.heap.size,2,none⟩) (by simp)).trans (by simp;rfl)
    have g3:=(hbn.cell (p:=⟨w.heap.size,3,none⟩) (by simp)).trans (by simp;rfl)
    clear hbn
    go_wp2_with fail
    go_ret
    exact ⟨by rw [hz2.out];rfl,KG.out⟩
   ·have hn':(n==0)=false:=by simpa using hn
    obtain rfl:q=false:=by rw [hz1.out,hn'];rfl
    clear hz1 hn
    go_enter Tryz.func130,Tryz.ntmps130
    go_wp2_with fail
    refine (hN.out _).mono ?_
    rintro e w' ⟨rfl,hbn⟩
    have KG:=anc (HB0.out.trans (hbn.mono (by simp)))
    have g2:=(hbn.cell (p:=⟨w.heap.size,2,none⟩) (by simp)).trans (by simp;rfl)
    have g3:=(hbn.cell (p:=⟨w.heap.size,3,none⟩) (by simp)).trans (by simp;rfl)
    clear hbn
    go_wp2_with fail
    go_ret
    exact ⟨rfl,KG.out⟩
 have h1':(k==1)=false:=by simpa using h1
 by_cases h2:k=2
 ·subst h2
  have hz1:Hid (q=(s.toList.isEmpty&&m==0)):=anc (by rw [hz.out,if_neg (by decide),if_pos rfl])
  clear hz hc hC hN h1 h1'
  by_cases he:s.toList=[]
  ·have hz2:Hid (q=((m:Int)==0)):=anc (by rw [hz1.out,he,oQ];simp)
   clear hz1
   go_enter Tryz.func130,Tryz.ntmps130
   go_wp2_with fail
   go_ret
   exact ⟨by rw [hz2.out];rfl,HB0.out⟩
  ·have he':(s.toList==[])=false:=by simpa using he
   obtain rfl:q=false:=by rw [hz1.out];cases h:s.toList with
    | nil=>exact absurd h he
    | cons a l=>rfl
   clear hz1 he
   go_enter Tryz.func130,Tryz.ntmps130
   go_wp2_with fail
   go_ret
   exact ⟨rfl,HB0.out⟩
 have h2':(k==2)=false:=by simpa using h2
 by_cases h3:k=3
 ·subst h3
  have hz1:Hid (q=(n==0&&m==0)):=anc (by rw [hz.out,if_neg (by decide),if_neg (by decide),if_pos rfl])
  clear hz hc hC hN h1 h1' h2 h2'
  by_cases hn:n=0
  ·subst hn
   have hz2:Hid (q=((m:Int)==0)):=anc (by rw [hz1.out,oQ];simp)
   clear hz1
   go_enter Tryz.func130,Tryz.ntmps130
   go_wp2_with fail
   go_ret
   exact ⟨by rw [hz2.out];rfl,HB0.out⟩
  ·have hn':(n==0)=false:=by simpa using hn
   obtain rfl:q=false:=by rw [hz1.out,hn'];rfl
   clear hz1 hn
   go_enter Tryz.func130,Tryz.ntmps130
   go_wp2_with fail
   go_ret
   exact ⟨rfl,HB0.out⟩
 have h3':(k==3)=false:=by simpa using h3
 have h4':(k==4)=false:=by simpa using h4
 obtain rfl:q=false:=by rw [hz.out,if_neg h1,if_neg h2,if_neg h3,if_neg h4]
 clear hz hN
 go_enter Tryz.func130,Tryz.ntmps130
 go_wp2_with fail
 go_ret
 exact ⟨rfl,HB0.out⟩
theorem PL:∀ e,xI e:=E.ind fun k s n l ih=>by
 by_cases h:k=4
 ·subst h;exact IX s n l ih
 ·exact LJ k s n l h
def Gv (e:E):Prop:=E.Fine e→nD e→∀ (A:Option Addr)(c:Nat)(w:World),eQ w w.heap.size A e.kids →
 Calls Tryz.prog 88 #[e.val A c] w fun r w'=>(∃ A' c',r=.returned ((dm e).val A' c')∧(dm e).kids.length≤c'∧ku w' (fun k=>w.heap.size≤k∧k<w'.heap.size) A' (dm e).kids)∧Below w.heap.size w w'
theorem lK {fn:Func} {p:Tmp} (h:fn.results=#[.cell p 86]) {tmps:Array Value} {w:World} {g:Nat} {x0 x1 x2 x3 x4:Value} {t:TypeId}
 (hp:tmps.getD p undef=.pointer (some ⟨g,0,none⟩))(hg:w.heap[g]?=some (.cells #[x0,x1,x2,x3,x4] t (0,0))):(results fn tmps).run Tryz.prog w=.ok (.agg #[x0,x1,x2,x3,x4]) w:=by
 have hp':tmps[p]?.getD undef=.pointer (some ⟨g,0,none⟩):=by simpa using hp
 have hl:=run_loadVar_row (P:=Tryz.prog) w g t 86 #[x0,x1,x2,x3,x4] (0,0) _ hg Tryz.underlying86 rfl (by show _=some 5;kernel_rfl)
 simp [results,h,hp',asAddr,hl]
theorem IY:(Tryz.prog.info? 86).map (fun i=>(i.zero,i.size,i.bytes))=some (some (.agg #[.int .i64 0,.string ByteArray.empty,.int .i64 0,.slice none 0 0,.int .i64 0]),5,64):=by kernel_rfl
theorem LK (k:Int)(s:ByteArray)(n:Int)(l:List E)(hM:∀ e∈l,Gv e):Gv (.mk k s n l):=by
 intro l9 hm A c w hA
 have iL:=PL (.mk k s n l) l9
 rw [hm.ok] at iL
 simp only [E.val,E.k,E.s,E.n,E.kids] at hA iL ⊢
 obtain ⟨tr,htr⟩:∃ tr,tr=dm (.mk k s n l):=⟨_,rfl⟩
 rw [←htr]
 have Gl:=anc htr
 clear htr
 obtain ⟨ln,oL⟩:∃ ln,ln=l.length:=⟨_,rfl⟩
 have hlen:=hA.len
 rw [←oL] at hlen iL ⊢
 obtain ⟨wa,nC⟩:∃ wa,wa=w.alloc (.cells #[.int .i64 k,.string s,.int .i64 n,.slice A ln c] 38):=⟨_,rfl⟩
 have hba:Below w.heap.size w wa:=by rw [nC];exact (anl _ _).alloc (ank _) _
 have hsa:wa.heap.size=w.heap.size+1:=by rw [nC];simp
 have hxa:wa.heap[w.heap.size]?=some (.cells #[.int .i64 k,.string s,.int .i64 n,.slice A ln c] 38 (0,0)):=by rw [nC];exact anm w _
 obtain ⟨w1,aK⟩:∃ w1,w1=wa.alloc (.cells #[.int .i64 0,.string ⟨#[]⟩,.int .i64 0,.slice none 0 0,.int .i64 0] 86):=⟨_,rfl⟩
 have hb1:Below wa.heap.size wa w1:=by rw [aK];exact (anl _ _).alloc (ank _) _
 have hs1:w1.heap.size=w.heap.size+2:=by rw [aK];simp;omega
 have hr1:w1.heap[w.heap.size+1]?=some (.cells #[.int .i64 0,.string ⟨#[]⟩,.int .i64 0,.slice none 0 0,.int .i64 0] 86 (0,0)):=by rw [aK,←hsa];exact anm wa _
 have hx1:w1.heap[w.heap.size]?=some (.cells #[.int .i64 k,.string s,.int .i64 n,.slice A ln c] 38 (0,0)):=(hb1.block _ (by omega)).trans hxa
 have hbw:Below w.heap.size w w1:=hba.trans (hb1.mono (by omega))
 have hmd:=anc (iL A c w1 ((hA.low hbw).more hbw.size))
 obtain ⟨⟨k0,k1,k2,k3⟩,_,_,_,_⟩:=bQ hx1
 have HW1:=anc (show w1=(w.alloc (.cells #[.int .i64 k,.string s,.int .i64 n,.slice A ln c] 38)).alloc (.cells #[.int .i64 0,.string ⟨#[]⟩,.int .i64 0,.slice none 0 0,.int .i64 0] 86) by rw [aK,nC])
 have gU:=anc hx1
 have HR1:=anc hr1
 have HB1:=anc hbw
 have HK:=anc hA
 have jh:=anc oL
 have HM:=anc hM
 have HFK:Hid (∀ e∈l,E.Fine e):=anc (by cases l9;assumption)
 clear nC hba hsa hxa aK hb1 hr1 hx1 hbw iL hA hM oL wa
 go_enter Tryz.func88,Tryz.ntmps88
 go_upto_region 1 with (fail)
 rw [←HW1.out]
 go_wp2_with fail
 refine (hmd.out).mono ?_
 rintro r wm ⟨rfl,hbm⟩
 have Yq:=anc ((hbm.block w.heap.size (by omega)).trans gU.out)
 have Sj:=anc ((hbm.block (w.heap.size+1) (by omega)).trans HR1.out)
 have VV:=anc (HB1.out.trans (hbm.mono (by omega)))
 have hsm:=hbm.size
 obtain ⟨⟨k0,k1,k2,k3⟩,_,_,_,_⟩:=bQ Yq.out
 obtain ⟨⟨r0,r1,r2,r3,r4⟩,s0,s1,s2,s3,s4⟩:=ay Sj.out
 clear hbm
 cases hm with
 | vw s h =>
   go_wp2_with fail
   refine ano (lK rfl rfl (aB Sj.out)) rfl ?_
   rw [Gl.out,xh]
   exact ⟨⟨none,0,rfl,ank _,.nil _⟩,aC VV.out (Nat.le_succ _)⟩
 | num n =>
   go_wp2_with fail
   refine ano (lK rfl rfl (aB Sj.out)) rfl ?_
   rw [Gl.out,xq]
   exact ⟨⟨none,0,rfl,ank _,.nil _⟩,aC VV.out (Nat.le_succ _)⟩
 | str s =>
   go_wp2_with fail
   refine ano (lK rfl rfl (aB Sj.out)) rfl ?_
   rw [Gl.out,xu]
   exact ⟨⟨none,0,rfl,ank _,.nil _⟩,aC VV.out (Nat.le_succ _)⟩
 | app s l h0 hl hk =>
   have hlf:ln≤600:=by have:=Gj s;have:=jh.out;omega
   obtain ⟨i0,hi,hz0,hz1,hz2⟩:=info_parts IY
   obtain ⟨wn,Sl⟩:∃ wn,wn=wm.alloc (.cells #[.int .i64 2,.string s,.int .i64 0,.slice none 0 0,.int .i64 0] 86):=⟨_,rfl⟩
   have hbn:Below wm.heap.size wm wn:=by rw [Sl];exact (anl _ _).alloc (ank _) _
   have hsn:wn.heap.size=wm.heap.size+1:=by rw [Sl];simp
   have hnn:wn.heap[wm.heap.size]?=some (.cells #[.int .i64 2,.string s,.int .i64 0,.slice none 0 0,.int .i64 0] 86 (0,0)):=by rw [Sl];exact anm wm _
   obtain ⟨wl,Sm⟩:∃ wl,wl=wn.alloc (.cells #[.int .i64 1,.string ⟨#[]⟩,.int .i64 0,.slice (some ⟨wm.heap.size,0,none⟩) 1 1,.int .i64 0] 86):=⟨_,rfl⟩
   have hbl:Below wn.heap.size wn wl:=by rw [Sm];exact (anl _ _).alloc (ank _) _
   have hsl:wl.heap.size=wm.heap.size+2:=by rw [Sm];simp;omega
   have HTB:Hid (wl.heap[wm.heap.size+1]?=some (.cells #[.int .i64 1,.string ⟨#[]⟩,.int .i64 0,.slice (some ⟨wm.heap.size,0,none⟩) 1 1,.int .i64 0] 86 (0,0))):=anc (by rw [Sm,←hsn];exact anm wn _)
   have HOB:Hid (wl.ownsRow wm.heap.size 86 5 (.slice (some ⟨wm.heap.size,0,none⟩) 1 1) 1 (aO [((.mk 2 s 0 [] 0:T),none,0)])):=anc ⟨rfl,.inr ⟨wm.heap.size,1,_,rfl,ank _,(hbl.block _ (by omega)).trans hnn,ank _,by decide,rfl,rfl⟩⟩
   have Gm:Below wm.heap.size wm wl:=hbn.trans (hbl.mono (by omega))
   have HBL:=anc (VV.out.trans (Gm.mono (by omega)))
   have BO:=anc ((Gm.block w.heap.size (by omega)).trans Yq.out)
   have HRL:=anc ((Gm.block (w.heap.size+1) (by omega)).trans Sj.out)
   have HWL:=anc (show wl=(wm.alloc (.cells #[.int .i64 2,.string s,.int .i64 0,.slice none 0 0,.int .i64 0] 86)).alloc (.cells #[.int .i64 1,.string ⟨#[]⟩,.int .i64 0,.slice (some ⟨wm.heap.size,0,none⟩) 1 1,.int .i64 0] 86) by rw [Sm,Sl])
   have YR:=anc hk
   clear Sl hbn hnn Sm hbl Gm wn hsn hk h0 hl
   go_upto_region 11 with (fail)
   rw [←HWL.out]
   obtain ⟨⟨k0,k1,k2,k3⟩,_,_,_,_⟩:=bQ BO.out
   go_wp2_with fail
   go_loopw [4] (fun i wr=>∃ (j:Nat)(ps:List TP)(v:Value),j≤ln∧ps.length=j+1∧i=.int .i64 j∧wr.heap[wm.heap.size+1]?=some (.cells #[.int .i64 1,.string ⟨#[]⟩,.int .i64 0,v,.int .i64 0] 86 (0,0)) ∧
    wr.ownsRow wm.heap.size 86 5 v (j+1) (aO ps)∧v.ownBlock≠some (wm.heap.size+1)∧Hid (∀ p∈ps,p.1.kids.length≤p.2.2∧ku wr (fun k=>wl.heap.size≤k∧k<wr.heap.size∧v.ownBlock≠some k) p.2.1 p.1.kids)∧Below wm.heap.size wl wr∧Hid (ps.map Prod.fst=.mk 2 s 0 [] 0::(jc l).take j)) (fun i _=>ln-(intOf i).toNat)
   case atStart=>exact ⟨0,[((.mk 2 s 0 [] 0:T),none,0)],_,Nat.zero_le _,rfl,rfl,HTB.out,HOB.out,by simp [Value.ownBlock],anc (pG s _ _),anl _ _,anc (by simp)⟩
   case round =>
    obtain ⟨j,ps,v,hj,hpl,rfl,hbox,hown,hvt,hxk,hb,hzl⟩:=hrel
    have HO:=anc hown
    have HB:=anc hb
    have hs:=hb.size
    have jI:=anc hpl
    have iJ:=anc hbox
    have YY:=anc hvt
    have dC:=anc (HBL.out.trans (hb.mono (by omega)))
    clear hown hpl hbox hvt hb
    by_cases hlt2:j<ln
    ·obtain ⟨x,hx⟩:∃ x,l[j]?=some x:=⟨_,anr (by rw [←jh.out];exact hlt2)⟩
     obtain ⟨b,o,A',c',rfl,Gn,c0,c1,c2,c3,hKx⟩:=eQ.cu HK.out wr dC.out j x hx
     have Bv:=HM.out x (anq hx) (HFK.out x (anq hx)) (YR.out x (anq hx))
     have htk:Hid ((jc l).take (j+1)=(jc l).take j++[dm x]):=anc (BN hx)
     have hbd:Below wr.heap.size wr wr.drew:=(anl _ _).drew
     have jq:=anc (Bv A' c' wr.drew ((hKx.low hbd).more hbd.size))
     obtain ⟨y,hy⟩:∃ y,y=dm x:=⟨_,rfl⟩
     rw [←hy] at jq htk
     clear hx hKx Bv hbd hy
     obtain ⟨xk,xs,xn,xl⟩:=x
     obtain ⟨tk,ts,tn,tl,ta⟩:=y
     simp only [E.val,E.k,E.s,E.n,E.kids,T.val,T.k,T.s,T.n,T.kids,T.at_] at c0 c1 c2 c3 jq
     generalize xl.length=xm at *
     obtain ⟨⟨q0,q1,q2,q3⟩,_,_,_,_⟩:=bQ ((HB.out.block _ (by omega)).trans BO.out)
     obtain ⟨⟨k0,k1,k2,k3,k4⟩,f0,f1,f2,f3,f4⟩:=ay iJ.out
     go_upto_region 14 with (fail)
     go_region_law (first
      | (refine step_append_lies _ rfl _ _ _ rfl wm.heap.size 86 i0 _ 5 64 Tryz.underlying84 hi hz0 hz1 hz2 rfl (by decide) _ _ _ rfl (Kw.out.alloc _) ⟨w3.heap.size,0,none⟩ 1 1 (TP.cs ((.mk tk ts tn tl ta:T),A3,c3')) rfl rfl (World.news_of_block (anm w3 _)) (by rw [←bD];exact bG _) (by decide) (by unfold maxLen;omega) (by omega) (by simp;omega) _ rfl ?_;intro g cap w5 hown5 hgrow hat hlt
         have fV:=anc hown5
         have qx:Hid (w3.grownBy w5 v.ownBlock):=anc ((World.grownBy_alloc _ _ _).trans hgrow)
         have gY:Hid ((Value.slice (some ⟨g,0,none⟩) (j+1+1) cap).ownBlock=v.ownBlock∨∃ n,(Value.slice (some ⟨g,0,none⟩) (j+1+1) cap).ownBlock=some n∧w3.heap.size≤n):=anc (hat.imp (fun h=>h.symm) fun h=>⟨g,rfl,by rw [h];simp⟩)
         have Lj:=anc ((qx.out.block (wm.heap.size+1) (by omega) (fun e=>YY.out e.symm)).trans IM.out)
         obtain ⟨⟨p0,p1,p2,p3,p4⟩,q0,q1,q2,q3,q4⟩:=ay Lj.out
         clear hown5 hgrow hat)
      | (go_simp;go_at_call 88;refine (jq.out).mono ?_;rintro e w3 ⟨⟨A3,c3',rfl,hc3,hX⟩,hb3⟩
         have mP:=anc hX
         have HB3:Hid (Below wr.heap.size wr w3):=anc ((((anl wr.heap.size wr).drew)).trans (hb3.mono (by simp)))
         have Kw:=anc (own_below HO.out HB3.out)
         have aeJ:wr.heap.size≤w3.heap.size:=by have:=hb3.size;simp at this;omega
         have IM:=anc ((HB3.out.block (wm.heap.size+1) (by omega)).trans iJ.out)
         have g3:w3.cell? ⟨wm.heap.size+1,3,none⟩=some v:=(ay IM.out).1.2.2.2.1
         have Ro:(w3.alloc (.cells #[.int .i64 tk,.string ts,.int .i64 tn,.slice A3 tl.length c3',.int .i64 ta] 86)).cell? ⟨wm.heap.size+1,3,none⟩=some v:=(World.cell?_alloc_some _ _ _ (by rw [g3];rfl)).trans g3
         clear hX hb3))
     all_goals
      go_wp2_with fail
      go_roundw
      case measure=>simp [intOf];omega
      case rel =>
       have hs5:=qx.out.size
       have hgt:g≠wm.heap.size+1:=fun e=>by
        rcases gY.out with h | ⟨n,h,h2⟩
        ·exact YY.out (by rw [←h];simp [Value.ownBlock,e])
        ·have:n=g:=by simpa [Value.ownBlock] using h.symm
         omega
       have hother:∀ k,k≠wm.heap.size+1→k<w3.heap.size→v.ownBlock≠some k→(w5.setCell ⟨wm.heap.size+1,3,none⟩ (.slice (some ⟨g,0,none⟩) (j+1+1) cap)).heap[k]?=w3.heap[k]?:=fun k h1 h2 h3 =>
        (ann w5 ⟨wm.heap.size+1,3,none⟩ _ k h1).trans (qx.out.block k (by omega) fun e=>h3 e.symm)
       refine ⟨j+1,ps++[((.mk tk ts tn tl ta:T),A3,c3')],.slice (some ⟨g,0,none⟩) (j+1+1) cap,by omega,by rw [List.length_append,jI.out];rfl,by go_num,kV (k:=3) Lj.out,?_,by simpa [Value.ownBlock] using hgt,anc ?_,?_,anc ?_⟩
       ·rw [fZ,bD]
        exact kN fV.out (ann w5 ⟨wm.heap.size+1,3,none⟩ _ g hgt)
       ·refine Iy hxk.out hc3 (mP.out.mono fun k hk=>⟨by have:=hk.1;simp at this;omega,hk.2⟩) (by omega) (fun k h1 h2 h3=>(hother k (by omega) (by omega) h3).trans (HB3.out.block k h2)) (fun k h1 h2=>hother k (by omega) (by omega) fun e=>by have:=(HO.out.lt _ e).2;omega) (by omega) ?_ (fun k e=>(HO.out.lt _ e).2) gY.out
        simp only [World.setCell,Array.size_modify]
        omega
       ·exact ((HB.out.trans (HB3.out.mono (by omega))).grown qx.out (by omega) (fun g hg=>by have:=(HO.out.lt g hg).1;omega)).setCell (p:=⟨wm.heap.size+1,3,none⟩) (by show wm.heap.size≤wm.heap.size+1;omega) _
       ·rw [htk.out,List.map_append,hzl.out];rfl
    ·obtain rfl:j=ln:=by omega
     have hps:ps.map Prod.fst=.mk 2 s 0 [] 0::jc l:=by rw [hzl.out,jh.out,←qp,List.take_length]
     have hO2:wr.ownsRow wm.heap.size 86 5 v ps.length (aO ps):=by rw [jI.out];exact HO.out
     obtain ⟨A9,c9,rfl,Gp,wG⟩:=oV hO2 (by rw [jI.out];omega) (S:=fun k=>w.heap.size+2≤k∧k<wr.heap.size) (fun g u1 u2=>⟨by omega,u2⟩) (fun p hp=>⟨(hxk.out p hp).1,(hxk.out p hp).2.mono (fun k hk=>⟨by have:=hk.1;omega,hk.2.1⟩)⟩)
     rw [hps] at Gp wG iJ
     have EE:=anc wG
     have HC9:=anc Gp
     have ET:Hid (wr.heap[w.heap.size+1]?=some (.cells #[.int .i64 0,.string ⟨#[]⟩,.int .i64 0,.slice none 0 0,.int .i64 0] 86 (0,0))):=anc ((HB.out.block _ (by omega)).trans HRL.out)
     obtain ⟨⟨k0,k1,k2,k3,k4⟩,f0,f1,f2,f3,f4⟩:=ay iJ.out
     obtain ⟨⟨q0,q1,q2,q3,q4⟩,e0,e1,e2,e3,e4⟩:=ay ET.out
     obtain ⟨⟨a0,a1,a2,a3⟩,_,_,_,_⟩:=bQ ((HB.out.block _ (by omega)).trans BO.out)
     clear hO2 wG hxk hzl hps Gp
     go_wp2_with fail
     refine ano (lK rfl rfl (aB ET.out)) rfl ?_
     rw [Gl.out,xw]
     refine ⟨⟨A9,c9,rfl,HC9.out,?_⟩,aC dC.out (Nat.le_succ _)⟩
     exact (EE.out.kept (fun k hk=>kZ (by have:=hk.1;omega))).mono (fun k hk=>⟨by have:=hk.1;omega,anu hk.2 oW.symm⟩)
theorem EZ:∀ e,Gv e:=E.ind (fun k s n l h=>LK k s n l h)
end Go.Proofs.YtjhkihkiebnpaaaGreatDoor
namespace Go.Proofs
open Go.Shelf
def Tryz.lays156_ren:Go.Shelf.Ren:=⟨fun | 156=>61 | 165=>107 | 166=>108 | 169=>109 | 240=>142 | 241=>143 | 276=>162 | 277=>163 | n=>n,fun | 31=>23 | 9=>9 | 3=>3 | 4=>4 | 0=>0 | 20=>20 | 72=>160 | 76=>164 | 70=>158 | 37=>151 | 75=>163 | 127=>193 | 164=>210 | 5=>5 | 80=>166 | n=>n,fun | n=>n⟩
theorem Tryz.lays156:Go.Proofs.Lays.n156 Tryz.prog Tryz.lays156_ren:={
 mixed:=by kernel_rfl
 f156:=Tryz.func61.trans (congrArg some (by kernel_rfl))
 f165:=Tryz.func107.trans (congrArg some (by kernel_rfl))
 f166:=Tryz.func108.trans (congrArg some (by kernel_rfl))
 f169:=Tryz.func109.trans (congrArg some (by kernel_rfl))
 f240:=Tryz.func142.trans (congrArg some (by kernel_rfl))
 f241:=Tryz.func143.trans (congrArg some (by kernel_rfl))
 f276:=Tryz.func162.trans (congrArg some (by kernel_rfl))
 f277:=Tryz.func163.trans (congrArg some (by kernel_rfl))
 t0:=Tryz.underlying0
 a0:=Tryz.isAgg0
 z0:=Tryz.sizeOf0
 v0:=Tryz.zeroValue0
 t3:=Tryz.underlying3
 a3:=Tryz.isAgg3
 z3:=Tryz.sizeOf3
 v3:=Tryz.zeroValue3
 t4:=Tryz.underlying4
 a4:=Tryz.isAgg4
 z4:=Tryz.sizeOf4
 v4:=Tryz.zeroValue4
 t9:=Tryz.underlying9
 a9:=Tryz.isAgg9
 z9:=Tryz.sizeOf9
 v9:=Tryz.zeroValue9
 t20:=Tryz.underlying20
 a20:=Tryz.isAgg20
 z20:=Tryz.sizeOf20
 v20:=Tryz.zeroValue20
 t31:=Tryz.underlying23
 a31:=Tryz.isAgg23
 z31:=Tryz.sizeOf23
 v31:=Tryz.zeroValue23
 t37:=Tryz.underlying151
 a37:=Tryz.isAgg151
 z37:=Tryz.sizeOf151
 v37:=Tryz.zeroValue151
 t70:=Tryz.underlying158
 a70:=Tryz.isAgg158
 z70:=Tryz.sizeOf158
 v70:=Tryz.zeroValue158
 t72:=Tryz.underlying160
 a72:=Tryz.isAgg160
 z72:=Tryz.sizeOf160
 v72:=Tryz.zeroValue160
 t75:=Tryz.underlying163
 a75:=Tryz.isAgg163
 z75:=Tryz.sizeOf163
 v75:=Tryz.zeroValue163
 t76:=Tryz.underlying164
 a76:=Tryz.isAgg164
 z76:=Tryz.sizeOf164
 v76:=Tryz.zeroValue164
 t127:=Tryz.underlying193
 a127:=Tryz.isAgg193
 z127:=Tryz.sizeOf193
 v127:=Tryz.zeroValue193
 t164:=Tryz.underlying210
 a164:=Tryz.isAgg210
 z164:=Tryz.sizeOf210
 v164:=Tryz.zeroValue210 }
theorem Tryz.Builder_Extra_156:Builder.Extra Tryz.prog Tryz.lays156_ren:={
 sizeBuilder:=by kernel_rfl
 liesBuilder:=by kernel_rfl
 t5:=Tryz.underlying5
 a5:=Tryz.isAgg5
 z5:=Tryz.sizeOf5
 v5:=Tryz.zeroValue5
 infoByte:=by kernel_rfl
 cellsByte:=by kernel_rfl
 sizeByte:=by kernel_rfl
 neB5:=by decide }
open Go.RowKit in
theorem Tryz.strings_Join_none (a:Option Addr)(c:Nat)(sep:ByteArray)(w:World) :
 Calls Tryz.prog 61 #[.slice a 0 c,.string sep] w fun e w'=>e=.returned (.string ⟨#[]⟩)∧w'=w:=Any.strings_Join_none Tryz.lays156 Tryz.Builder_Extra_156 a c sep w
open Go.RowKit in
theorem Tryz.strings_Join (bk o c:Nat)(xs:List ByteArray)(sep:ByteArray)(w:World)(hcells:∀ (j:Nat) x,xs[j]?=some x→w.cell? ⟨bk,o+j,none⟩=some (.string x))(hbk:bk<w.heap.size)(hN:xs.length≤140737488355328)(hcap:xs.length≤c)(hlen:(Lib.join (xs.map (·.data.toList)) sep.data.toList).length≤140737488355328) :
 Calls Tryz.prog 61 #[.slice (some ⟨bk,o,none⟩) xs.length c,.string sep] w fun e w'=>e=.returned (.string ⟨(Lib.join (xs.map (·.data.toList)) sep.data.toList).toArray⟩)∧Below w.heap.size w w':=Any.strings_Join Tryz.lays156 Tryz.Builder_Extra_156 bk o c xs sep w hcells hbk hN hcap hlen
def Tryz.lays137_ren:Go.Shelf.Ren:=⟨fun | 137=>160 | 217=>178 | 266=>187 | n=>n,fun | 9=>9 | 5=>5 | 3=>3 | n=>n,fun | n=>n⟩
theorem Tryz.lays137:Go.Proofs.Lays.n137 Tryz.prog Tryz.lays137_ren:={
 mixed:=by kernel_rfl
 f137:=Tryz.func160.trans (congrArg some (by kernel_rfl))
 f217:=Tryz.func178.trans (congrArg some (by kernel_rfl))
 f266:=Tryz.func187.trans (congrArg some (by kernel_rfl))
 t3:=Tryz.underlying3
 a3:=Tryz.isAgg3
 z3:=Tryz.sizeOf3
 v3:=Tryz.zeroValue3
 t5:=Tryz.underlying5
 a5:=Tryz.isAgg5
 z5:=Tryz.sizeOf5
 v5:=Tryz.zeroValue5
 t9:=Tryz.underlying9
 a9:=Tryz.isAgg9
 z9:=Tryz.sizeOf9
 v9:=Tryz.zeroValue9 }
open Go.RowKit in
theorem Tryz.strings_IndexByte (s:ByteArray)(c:Int)(w:World) :
 Calls Tryz.prog 160 #[.string s,.int .u8 c] w fun e w'=>e=.returned (.int .i64 (Lib.indexByte s.data.toList c.toNat.toUInt8))∧w'=w:=Any.strings_IndexByte Tryz.lays137 s c w
def Tryz.laysM173_ren:Go.Shelf.Ren:=⟨fun | 173=>62 | 246=>110 | 283=>144 | 284=>145 | 285=>146 | 286=>147 | 129=>122 | 317=>164 | 318=>165 | 319=>166 | 320=>167 | 337=>179 | 338=>180 | n=>n,fun | 2=>2 | 3=>3 | 9=>9 | 4=>4 | 171=>195 | 0=>0 | 53=>178 | 37=>151 | 5=>5 | 173=>197 | 212=>215 | 51=>176 | 20=>20 | 213=>216 | 46=>127 | 232=>233 | 233=>234 | n=>n,fun | 17=>0 | 18=>4 | 19=>5 | n=>n⟩
theorem Tryz.laysM173:Go.Proofs.LaysM.n173 Tryz.prog Tryz.laysM173_ren:={
 mixed:=by kernel_rfl
 f129:=Tryz.func122.trans (congrArg some (by kernel_rfl))
 f173:=Tryz.func62.trans (congrArg some (by kernel_rfl))
 f246:=Tryz.func110.trans (congrArg some (by kernel_rfl))
 f283:=Tryz.func144.trans (congrArg some (by kernel_rfl))
 f284:=Tryz.func145.trans (congrArg some (by kernel_rfl))
 f285:=Tryz.func146.trans (congrArg some (by kernel_rfl))
 f286:=Tryz.func147.trans (congrArg some (by kernel_rfl))
 f317:=Tryz.func164.trans (congrArg some (by kernel_rfl))
 f318:=Tryz.func165.trans (congrArg some (by kernel_rfl))
 f319:=Tryz.func166.trans (congrArg some (by kernel_rfl))
 f320:=Tryz.func167.trans (congrArg some (by kernel_rfl))
 f337:=Tryz.func179.trans (congrArg some (by kernel_rfl))
 f338:=Tryz.func180.trans (congrArg some (by kernel_rfl))
 t0:=Tryz.underlying0
 a0:=Tryz.isAgg0
 z0:=Tryz.sizeOf0
 v0:=Tryz.zeroValue0
 t2:=Tryz.underlying2
 a2:=Tryz.isAgg2
 z2:=Tryz.sizeOf2
 v2:=Tryz.zeroValue2
 t3:=Tryz.underlying3
 a3:=Tryz.isAgg3
 z3:=Tryz.sizeOf3
 v3:=Tryz.zeroValue3
 t4:=Tryz.underlying4
 a4:=Tryz.isAgg4
 z4:=Tryz.sizeOf4
 v4:=Tryz.zeroValue4
 t5:=Tryz.underlying5
 a5:=Tryz.isAgg5
 z5:=Tryz.sizeOf5
 v5:=Tryz.zeroValue5
 t9:=Tryz.underlying9
 a9:=Tryz.isAgg9
 z9:=Tryz.sizeOf9
 v9:=Tryz.zeroValue9
 t20:=Tryz.underlying20
 a20:=Tryz.isAgg20
 z20:=Tryz.sizeOf20
 v20:=Tryz.zeroValue20
 t37:=Tryz.underlying151
 a37:=Tryz.isAgg151
 z37:=Tryz.sizeOf151
 v37:=Tryz.zeroValue151
 t46:=Tryz.underlying127
 a46:=Tryz.isAgg127
 z46:=Tryz.sizeOf127
 v46:=Tryz.zeroValue127
 t51:=Tryz.underlying176
 a51:=Tryz.isAgg176
 z51:=Tryz.sizeOf176
 v51:=Tryz.zeroValue176
 t53:=Tryz.underlying178
 a53:=Tryz.isAgg178
 z53:=Tryz.sizeOf178
 v53:=Tryz.zeroValue178
 t171:=Tryz.underlying195
 a171:=Tryz.isAgg195
 z171:=Tryz.sizeOf195
 v171:=Tryz.zeroValue195
 t173:=Tryz.underlying197
 a173:=Tryz.isAgg197
 z173:=Tryz.sizeOf197
 v173:=Tryz.zeroValue197
 t212:=Tryz.underlying215
 a212:=Tryz.isAgg215
 z212:=Tryz.sizeOf215
 v212:=Tryz.zeroValue215
 t213:=Tryz.underlying216
 a213:=Tryz.isAgg216
 z213:=Tryz.sizeOf216
 t232:=Tryz.underlying233
 a232:=Tryz.isAgg233
 z232:=Tryz.sizeOf233
 v232:=Tryz.zeroValue233
 t233:=Tryz.underlying234
 a233:=Tryz.isAgg234
 z233:=Tryz.sizeOf234
 v233:=Tryz.zeroValue234
 g17:=by kernel_rfl
 g18:=by kernel_rfl
 g19:=by kernel_rfl
 i0:=by kernel_rfl
 i2:=by kernel_rfl
 i3:=by kernel_rfl
 i4:=by kernel_rfl
 i5:=by kernel_rfl
 i9:=by kernel_rfl
 i20:=by kernel_rfl
 i37:=by kernel_rfl
 i46:=by kernel_rfl
 i51:=by kernel_rfl
 i53:=by kernel_rfl
 i171:=by kernel_rfl
 i173:=by kernel_rfl
 i212:=by kernel_rfl
 i232:=by kernel_rfl
 i233:=by kernel_rfl
 m17:=by kernel_rfl
 m18:=by kernel_rfl
 m19:=by kernel_rfl }
open Go.RowKit Go.Sort Go.Lib in
theorem Tryz.strconv_FormatInt_10 (n:Int)(h0:-9223372036854775808≤n)(h1:n≤9223372036854775807)(w:World)(htab:Lib.TabIs Tryz.prog w "internal/strconv.uint64pow10" .u64 Lib.pow10Tab) :
 Calls Tryz.prog 62 #[.int .i64 n,.int .i64 10] w fun e w'=>e=.returned (.string ⟨(Lib.itoa n).toArray⟩)∧∃ k os,w'=grow (w.drewN k) os:=Any.strconv_FormatInt_10 Tryz.laysM173 n h0 h1 w htab
def Tryz.laysC174_ren:Go.Shelf.Ren:=⟨fun | 174=>136 | 247=>158 | 245=>159 | 287=>173 | 279=>174 | 280=>175 | 281=>176 | 282=>177 | 321=>182 | 322=>183 | 316=>184 | 171=>186 | 205=>185 | 243=>188 | 246=>110 | 283=>144 | 284=>145 | 285=>146 | 286=>147 | 129=>122 | 317=>164 | 318=>165 | 319=>166 | 320=>167 | 337=>179 | 338=>180 | n=>n,fun | 9=>9 | 3=>3 | 2=>2 | 75=>163 | 85=>190 | 4=>4 | 167=>222 | 5=>5 | 53=>178 | 175=>223 | 46=>127 | 168=>225 | 37=>151 | 0=>0 | 210=>231 | 21=>21 | 127=>193 | 145=>237 | 143=>235 | 171=>195 | 173=>197 | 212=>215 | 51=>176 | 20=>20 | 213=>216 | 232=>233 | 233=>234 | 80=>166 | n=>n,fun | 15=>2 | 16=>3 | 17=>0 | 18=>4 | 19=>5 | n=>n⟩
theorem Tryz.laysC174:Go.Proofs.LaysC.n174 Tryz.prog Tryz.laysC174_ren:={
 mixed:=by kernel_rfl
 f129:=Tryz.func122.trans (congrArg some (by kernel_rfl))
 f171:=Tryz.func186.trans (congrArg some (by kernel_rfl))
 f174:=Tryz.func136.trans (congrArg some (by kernel_rfl))
 f205:=Tryz.func185.trans (congrArg some (by kernel_rfl))
 f243:=Tryz.func188.trans (congrArg some (by kernel_rfl))
 f245:=Tryz.func159.trans (congrArg some (by kernel_rfl))
 f246:=Tryz.func110.trans (congrArg some (by kernel_rfl))
 f247:=Tryz.func158.trans (congrArg some (by kernel_rfl))
 f279:=Tryz.func174.trans (congrArg some (by kernel_rfl))
 f280:=Tryz.func175.trans (congrArg some (by kernel_rfl))
 f281:=Tryz.func176.trans (congrArg some (by kernel_rfl))
 f282:=Tryz.func177.trans (congrArg some (by kernel_rfl))
 f283:=Tryz.func144.trans (congrArg some (by kernel_rfl))
 f284:=Tryz.func145.trans (congrArg some (by kernel_rfl))
 f285:=Tryz.func146.trans (congrArg some (by kernel_rfl))
 f286:=Tryz.func147.trans (congrArg some (by kernel_rfl))
 f287:=Tryz.func173.trans (congrArg some (by kernel_rfl))
 f316:=Tryz.func184.trans (congrArg some (by kernel_rfl))
 f317:=Tryz.func164.trans (congrArg some (by kernel_rfl))
 f318:=Tryz.func165.trans (congrArg some (by kernel_rfl))
 f319:=Tryz.func166.trans (congrArg some (by kernel_rfl))
 f320:=Tryz.func167.trans (congrArg some (by kernel_rfl))
 f321:=Tryz.func182.trans (congrArg some (by kernel_rfl))
 f322:=Tryz.func183.trans (congrArg some (by kernel_rfl))
 f337:=Tryz.func179.trans (congrArg some (by kernel_rfl))
 f338:=Tryz.func180.trans (congrArg some (by kernel_rfl))
 t0:=Tryz.underlying0
 a0:=Tryz.isAgg0
 z0:=Tryz.sizeOf0
 v0:=Tryz.zeroValue0
 t2:=Tryz.underlying2
 a2:=Tryz.isAgg2
 z2:=Tryz.sizeOf2
 v2:=Tryz.zeroValue2
 t3:=Tryz.underlying3
 a3:=Tryz.isAgg3
 z3:=Tryz.sizeOf3
 v3:=Tryz.zeroValue3
 t4:=Tryz.underlying4
 a4:=Tryz.isAgg4
 z4:=Tryz.sizeOf4
 v4:=Tryz.zeroValue4
 t5:=Tryz.underlying5
 a5:=Tryz.isAgg5
 z5:=Tryz.sizeOf5
 v5:=Tryz.zeroValue5
 t9:=Tryz.underlying9
 a9:=Tryz.isAgg9
 z9:=Tryz.sizeOf9
 v9:=Tryz.zeroValue9
 t20:=Tryz.underlying20
 a20:=Tryz.isAgg20
 z20:=Tryz.sizeOf20
 v20:=Tryz.zeroValue20
 t21:=Tryz.underlying21
 a21:=Tryz.isAgg21
 z21:=Tryz.sizeOf21
 v21:=Tryz.zeroValue21
 t37:=Tryz.underlying151
 a37:=Tryz.isAgg151
 z37:=Tryz.sizeOf151
 v37:=Tryz.zeroValue151
 t46:=Tryz.underlying127
 a46:=Tryz.isAgg127
 z46:=Tryz.sizeOf127
 v46:=Tryz.zeroValue127
 t51:=Tryz.underlying176
 a51:=Tryz.isAgg176
 z51:=Tryz.sizeOf176
 v51:=Tryz.zeroValue176
 t53:=Tryz.underlying178
 a53:=Tryz.isAgg178
 z53:=Tryz.sizeOf178
 v53:=Tryz.zeroValue178
 t75:=Tryz.underlying163
 a75:=Tryz.isAgg163
 z75:=Tryz.sizeOf163
 v75:=Tryz.zeroValue163
 t85:=Tryz.underlying190
 a85:=Tryz.isAgg190
 z85:=Tryz.sizeOf190
 v85:=Tryz.zeroValue190
 t127:=Tryz.underlying193
 a127:=Tryz.isAgg193
 z127:=Tryz.sizeOf193
 v127:=Tryz.zeroValue193
 t143:=Tryz.underlying235
 a143:=Tryz.isAgg235
 z143:=Tryz.sizeOf235
 v143:=Tryz.zeroValue235
 t145:=Tryz.underlying237
 a145:=Tryz.isAgg237
 z145:=Tryz.sizeOf237
 v145:=Tryz.zeroValue237
 t167:=Tryz.underlying222
 a167:=Tryz.isAgg222
 z167:=Tryz.sizeOf222
 v167:=Tryz.zeroValue222
 t168:=Tryz.underlying225
 a168:=Tryz.isAgg225
 z168:=Tryz.sizeOf225
 v168:=Tryz.zeroValue225
 t171:=Tryz.underlying195
 a171:=Tryz.isAgg195
 z171:=Tryz.sizeOf195
 v171:=Tryz.zeroValue195
 t173:=Tryz.underlying197
 a173:=Tryz.isAgg197
 z173:=Tryz.sizeOf197
 v173:=Tryz.zeroValue197
 t175:=Tryz.underlying223
 a175:=Tryz.isAgg223
 z175:=Tryz.sizeOf223
 v175:=Tryz.zeroValue223
 t210:=Tryz.underlying231
 a210:=Tryz.isAgg231
 z210:=Tryz.sizeOf231
 v210:=Tryz.zeroValue231
 t212:=Tryz.underlying215
 a212:=Tryz.isAgg215
 z212:=Tryz.sizeOf215
 v212:=Tryz.zeroValue215
 t213:=Tryz.underlying216
 a213:=Tryz.isAgg216
 z213:=Tryz.sizeOf216
 t232:=Tryz.underlying233
 a232:=Tryz.isAgg233
 z232:=Tryz.sizeOf233
 v232:=Tryz.zeroValue233
 t233:=Tryz.underlying234
 a233:=Tryz.isAgg234
 z233:=Tryz.sizeOf234
 v233:=Tryz.zeroValue234
 g15:=by kernel_rfl
 g16:=by kernel_rfl
 g17:=by kernel_rfl
 g18:=by kernel_rfl
 g19:=by kernel_rfl
 t80:=Tryz.underlying166
 a80:=Tryz.isAgg166
 z80:=Tryz.sizeOf166
 v80:=Tryz.zeroValue166
 i0:=by kernel_rfl
 i2:=by kernel_rfl
 i3:=by kernel_rfl
 i4:=by kernel_rfl
 i5:=by kernel_rfl
 i9:=by kernel_rfl
 i20:=by kernel_rfl
 i21:=by kernel_rfl
 i37:=by kernel_rfl
 i46:=by kernel_rfl
 i51:=by kernel_rfl
 i53:=by kernel_rfl
 i75:=by kernel_rfl
 i80:=by kernel_rfl
 i85:=by kernel_rfl
 i127:=by kernel_rfl
 i143:=by kernel_rfl
 i145:=by kernel_rfl
 i167:=by kernel_rfl
 i168:=by kernel_rfl
 i171:=by kernel_rfl
 i173:=by kernel_rfl
 i175:=by kernel_rfl
 i210:=by kernel_rfl
 i212:=by kernel_rfl
 i232:=by kernel_rfl
 i233:=by kernel_rfl
 m15:=by kernel_rfl
 m16:=by kernel_rfl
 m17:=by kernel_rfl
 m18:=by kernel_rfl
 m19:=by kernel_rfl
 c0:=by kernel_rfl
 c2:=by kernel_rfl
 c3:=by kernel_rfl
 c4:=by kernel_rfl
 c5:=by kernel_rfl
 c9:=by kernel_rfl
 c20:=by kernel_rfl
 c21:=by kernel_rfl
 c37:=by kernel_rfl
 c46:=by kernel_rfl
 c51:=by kernel_rfl
 c53:=by kernel_rfl
 c75:=by kernel_rfl
 c80:=by kernel_rfl
 c85:=by kernel_rfl
 c127:=by kernel_rfl
 c143:=by kernel_rfl
 c145:=by kernel_rfl
 c167:=by kernel_rfl
 c168:=by kernel_rfl
 c171:=by kernel_rfl
 c173:=by kernel_rfl
 c175:=by kernel_rfl
 c210:=by kernel_rfl
 c212:=by kernel_rfl
 c213:=by kernel_rfl
 c232:=by kernel_rfl
 c233:=by kernel_rfl }
open Go.RowKit in
theorem Tryz.strconv_ParseInt_10_at64_ok (s:ByteArray)(hmax:s.size≤9223372036854775806)(v:Int)(h:Lib.parseIntB 64 s.data.toList=.ok v)(w:World) :
 Calls Tryz.prog 136 #[.string s,.int .i64 10,.int .i64 64] w fun e w'=>e=.returned (.tuple #[.int .i64 v,.nilIface])∧(w'=w∨∃ t,w'=Lib.bytesWorld w 5 t):=Any.strconv_ParseInt_10_at64_ok Tryz.laysC174 s hmax v h w
open Go.RowKit in
theorem Tryz.strconv_ParseInt_10_at64_syntax (s:ByteArray)(hlim:s.size≤281474976710656)(h:Lib.parseIntB 64 s.data.toList=.«syntax»)(ev:Value)(w:World)(hv:w.cell? ⟨2,0,none⟩=some ev)(hev:ev=.nilIface∨∃ te pe,ev=.iface te pe) :
 Calls Tryz.prog 136 #[.string s,.int .i64 10,.int .i64 64] w fun e w'=>∃ N,e=.returned (.tuple #[.int .i64 (0),.iface 225 (.pointer (some ⟨N,0,none⟩))])∧w.heap.size≤N∧w'.heap[N]?=some (.cells #[.string ⟨#[80,97,114,115,101,73,110,116]⟩,.string s,ev] 231 (0,0))∧Below w.heap.size w w':=Any.strconv_ParseInt_10_at64_syntax Tryz.laysC174 s hlim h ev w hv hev
open Go.RowKit in
theorem Tryz.strconv_ParseInt_10_at64_range (s:ByteArray)(hlim:s.size≤281474976710656)(h:Lib.parseIntB 64 s.data.toList=.range)(ev:Value)(w:World)(hv:w.cell? ⟨3,0,none⟩=some ev)(hev:ev=.nilIface∨∃ te pe,ev=.iface te pe) :
 Calls Tryz.prog 136 #[.string s,.int .i64 10,.int .i64 64] w fun e w'=>∃ N,e=.returned (.tuple #[.int .i64 (Lib.intSat 64 s.data.toList),.iface 225 (.pointer (some ⟨N,0,none⟩))])∧w.heap.size≤N∧w'.heap[N]?=some (.cells #[.string ⟨#[80,97,114,115,101,73,110,116]⟩,.string s,ev] 231 (0,0))∧Below w.heap.size w w':=Any.strconv_ParseInt_10_at64_range Tryz.laysC174 s hlim h ev w hv hev
end Go.Proofs
