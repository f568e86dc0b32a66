/-
  sexp.Print: what it writes.
-/
import Derived.Test.YtjhkihkiebnpaaaGreatDoorMk2
import Derived.Test.YtjhkihkiebnpaaaGreatDoorMk3
import Derived.Test.YtjhkihkiebnpaaaGreatDoorMk1
import Derived.Lib.ParseIntBCases
import Derived.Lib.ItoaNum
import Derived.Lib.ParseIntBTie
import Derived.Deep.DeepCutAuto
import Derived.Deep.CutBlock
import Derived.Deep.RegionLaw
import Derived.Deep.AppendLies
import Derived.OrdersHeld
import Derived.Deep.RegionHeld
import Derived.KernelRfl
set_option linter.unusedVariables false
set_option linter.unusedSimpArgs false
set_option maxRecDepth 100000
set_option maxHeartbeats 40000000
namespace Go.Proofs.YtjhkihkiebnpaaaGreatDoor
open Go.RowKit
theorem IZ {k n:Int} {s:ByteArray} (hok:V.okB ⟨k,n,s⟩=true)(hk:(k==1)=false):(k==2)=true∧s.size≤40:=by
 unfold V.okB at hok
 rw [show ((V.mk k n s).k==1)=false from hk,Bool.false_and,Bool.false_or] at hok
 simp only [Bool.and_eq_true,decide_eq_true_eq] at hok
 exact ⟨hok.1,by have:=hok.2.2;omega⟩
theorem SS (s:ByteArray)(w:World):Calls Tryz.prog 63 #[.agg #[.int .i64 2,.int .i64 0,.string s]] w fun e w'=>e=.returned (.string ⟨(pJ s).toArray⟩)∧Below w.heap.size w w':=by
 unfold pJ
 have hr:=anc (zM 2 0 s)
 cases hok:V.okB ⟨2,0,s⟩
 ·rw [hok] at hr
  simp only [Bool.false_eq_true,if_false]
  clear hok
  go_enter Tryz.func63,Tryz.ntmps63
  go_wp2_with fail
  refine (hr.out _).mono ?_
  rintro e w' ⟨rfl,rfl⟩
  go_wp2_with fail
  go_ret
  exact ⟨rfl,((anl _ _).alloc (ank _) _).alloc (by simp) _⟩
 ·exact Py s (IZ hok rfl).2 0 2 rfl hok w
theorem V8 (s:ByteArray)(w:World):Calls Tryz.prog 64 #[.string s] w fun e w'=>e=.returned (.agg #[.int .i64 2,.int .i64 0,.string s])∧Below w.heap.size w w':=by
 go_enter Tryz.func64,Tryz.ntmps64
 go_wp2
 exact ano (v:=.agg #[.int .i64 2,.int .i64 0,.string s]) (by simp [results,Tryz.results64,go_sem]) rfl ⟨rfl,(anl _ _).alloc (ank _) _⟩
inductive oM:T→Prop
 | mk (k:Int)(s:ByteArray)(n:Int)(l:List T)(a:Int)(h1:-9223372036854775808≤n)(h2:n≤9223372036854775807)(hl:k=1→l.length≤600∧(Lib.join (gp l) [32]).length≤100000000000000)(hk:k=1→∀ e∈l,oM e):oM (.mk k s n l a)
abbrev SV (w:World):Prop:=Lib.TabIs Tryz.prog w "internal/strconv.uint64pow10" .u64 Lib.pow10Tab
def Gw (t:T):Prop:=oM t→∀ (A:Option Addr)(c:Nat)(w:World),t.kids.length≤c→bz w w.heap.size A t.kids→(∀ w',Below w.heap.size w w'→SV w') →
 Calls Tryz.prog 31 #[t.val A c] w fun e w'=>e=.returned (.string ⟨(dH t).toArray⟩)∧Below w.heap.size w w'
theorem SX {l:List T} {j:Nat} {x:T} (h:l[j]?=some x):(gp l).take (j+1)=(gp l).take j++[dH x]:=by
 induction l generalizing j with
 | nil=>simp at h
 | cons y l ih =>
   cases j with
   | zero =>
     obtain rfl:y=x:=by simpa using h
     rw [gp]
     rfl
   | succ j =>
     rw [gp,List.take_succ_cons,List.take_succ_cons,ih (by simpa using h)]
     rfl
theorem SY:(Tryz.prog.info? 9).map (fun i=>(i.zero,i.size,i.bytes))=some (some (.string ByteArray.empty),1,16):=by kernel_rfl
def BZ (l:List (List UInt8)):List Value:=l.map fun x=>.string ⟨x.toArray⟩
theorem LM (l:List UInt8):(⟨#[40]⟩:ByteArray)++⟨l.toArray⟩++⟨#[41]⟩=⟨(40::(l++[41])).toArray⟩:=by
 apply ByteArray.ext
 simp [ByteArray.data_append]
theorem LP (k:Int)(s:ByteArray)(n:Int)(l:List T)(a:Int)(hM:∀ e∈l,Gw e):Gw (.mk k s n l a):=by
 intro hp A c w hc hA hT
 obtain ⟨_,_,_,_,_,n1,n2,hl,hk⟩:=hp
 simp only [T.val,T.k,T.s,T.n,T.kids,T.at_] at hc hA ⊢
 obtain ⟨ln,oL⟩:∃ ln,ln=l.length:=⟨_,rfl⟩
 have hlen:=hA.len
 obtain ⟨w1,aK⟩:∃ w1,w1=w.alloc (.cells #[.int .i64 k,.string s,.int .i64 n,.slice A ln c,.int .i64 a] 71):=⟨_,rfl⟩
 have hb1:Below w.heap.size w w1:=by rw [aK];exact (anl _ _).alloc (ank _) _
 have hs1:w1.heap.size=w.heap.size+1:=by rw [aK];simp
 have hx1:w1.heap[w.heap.size]?=some (.cells #[.int .i64 k,.string s,.int .i64 n,.slice A ln c,.int .i64 a] 71 (0,0)):=by rw [aK];exact anm w _
 obtain ⟨⟨k0,k1,k2,k3,k4⟩,_,_,_,_,_⟩:=ay hx1
 obtain ⟨pr,hpr⟩:∃ pr,pr=dH (.mk k s n l a):=⟨_,rfl⟩
 rw [←hpr,←oL]
 have BX:=anc hpr
 have HW1:=anc aK
 have HB1:=anc hb1
 have gU:=anc hx1
 have HK:=anc hA
 have HM:=anc hM
 have jh:=anc oL
 have HT:=anc hT
 clear hpr aK hb1 hx1 hA hM hT oL
 by_cases h1:k=1
 ·subst h1
  obtain ⟨xH,hlj⟩:=hl rfl
  have KH:=anc (hk rfl)
  have HLJ:=anc hlj
  obtain ⟨i0,hi,hz0,hz1,hz2⟩:=info_parts SY
  have aeW:ln≤600:=by have:=jh.out;omega
  clear hk hl hlj xH
  go_enter Tryz.func31,Tryz.ntmps31
  go_upto_region 1 with (fail)
  rw [←HW1.out]
  go_wp2_with fail
  go_loopw [3,13] (fun v i wr=>∃ (j:Nat)(A':Option Addr)(c':Nat),j≤ln∧i=.int .i64 j∧v=.slice A' j c'∧wr.ownsRow w1.heap.size 9 1 (.slice A' j c') j (BZ ((gp l).take j))∧Below w1.heap.size w1 wr) (fun _ i _=>ln-(intOf i).toNat)
  case atStart=>exact ⟨0,none,0,Nat.zero_le _,rfl,rfl,⟨rfl,.inl ⟨rfl,rfl⟩⟩,anl _ _⟩
  case round =>
   obtain ⟨j,A',c',hj,rfl,rfl,hown,hb⟩:=hrel
   have HO:=anc hown
   have HB:=anc hb
   have hs:=hb.size
   have dC:=anc (HB1.out.trans (hb.mono (by omega)))
   clear hown hb
   by_cases hlt:j<ln
   ·obtain ⟨x,hx⟩:∃ x,l[j]?=some x:=⟨_,anr (by rw [←jh.out];exact hlt)⟩
    obtain ⟨b,o,A2,c2,rfl,hbl,m1,m2,m3,m4,m5,hcx,hKx⟩:=HK.out.cu wr dC.out j x hx
    have htk:=anc (SX hx)
    have Bv:=HM.out x (anq hx) (KH.out x (anq hx))
    obtain ⟨wx,dN⟩:∃ wx,wx=wr.alloc (.cells #[.int .i64 x.k,.string x.s,.int .i64 x.n,.slice A2 x.kids.length c2,.int .i64 x.at_] 71):=⟨_,rfl⟩
    have hbx:Below wr.heap.size wr wx:=by rw [dN];exact (anl _ _).alloc (ank _) _
    have hnx:wx.heap[wr.heap.size]?=some (.cells #[.int .i64 x.k,.string x.s,.int .i64 x.n,.slice A2 x.kids.length c2,.int .i64 x.at_] 71 (0,0)):=by rw [dN];exact anm wr _
    have qE:Below w.heap.size w wx:=dC.out.trans (hbx.mono (by have:=dC.out.size;omega))
    have hcl:=anc (Bv A2 c2 wx hcx ((hKx.low hbx).more hbx.size) (fun w' h=>HT.out w' (qE.trans (h.mono qE.size))))
    have iJ:=anc (HB.out.trans (hbx.mono hs))
    have jM:=anc dN
    obtain ⟨⟨n0,n1',n2',n3,n4⟩,_,_,_,_,_⟩:=ay hnx
    have YZ:=anc (own_below HO.out hbx)
    obtain ⟨pt,hpt⟩:∃ pt,pt=dH x:=⟨_,rfl⟩
    rw [←hpt] at hcl htk
    clear hx hKx Bv hcx dN hbx hnx qE hpt
    obtain ⟨xk,xs,xn,xl,xa⟩:=x
    simp only [T.val,T.k,T.s,T.n,T.kids,T.at_] at m1 m2 m3 m4 m5 hcl jM n0 n1' n2' n3 n4
    generalize xl.length=xm at *
    go_upto_region 7 with (fail)
    rw [←jM.out]
    go_wp2_with fail
    refine (hcl.out).mono ?_
    rintro e w2 ⟨rfl,hb2⟩
    have HB2:=anc (iJ.out.trans (hb2.mono iJ.out.size))
    have O9:=anc (own_below YZ.out hb2)
    have hs2:=HB2.out.size
    clear hb2
    go_wp2_with (at_builtin;refine wpList_append_own _ rfl _ _ 23 rfl w1.heap.size 9 i0 _ 1 16 Tryz.underlying23 hi hz0 hz1 hz2 rfl (by decide) (.slice A' j c') j (BZ ((gp l).take j)) rfl (own_below O9.out ((anl w2.heap.size w2).alloc (ank _) _)) ⟨w2.heap.size,0,none⟩ 1 1 [.string ⟨pt.toArray⟩] rfl rfl ?c1 ?c2 ?c3 ?c4 ?c5 ?_)
    case c1=>exact World.news_of_block (anm w2 _)
    case c2=>first | rfl | (intro u hu;simp at hu;subst hu;rfl)
    case c3=>unfold maxLen;omega
    case c4=>omega
    case c5=>first | omega | (simp;omega)
    intro v' w5 hown5 hgrow _
    have Ig:=((HB2.out.alloc (by omega) (.cells #[.string ⟨pt.toArray⟩] 9)).grown hgrow (by simp;omega) (fun g hg=>(O9.out.lt g hg).1))
    obtain ⟨g5,cap5,VR,_⟩:=hown5.form (by omega)
    subst VR
    have fV:Hid (w5.ownsRow w1.heap.size 9 1 (.slice (some ⟨g5,0,none⟩) (j+1) cap5) (j+1) (BZ ((gp l).take (j+1)))):=anc (by
     have e:BZ ((gp l).take (j+1))=BZ ((gp l).take j)++[.string ⟨pt.toArray⟩]:=by rw [htk.out];simp [BZ]
     rw [e,hs1]
     exact hown5)
    have fP:=anc Ig
    clear hown5 hgrow Ig
    go_wp2_with fail
    go_roundw
    case rel=>exact ⟨j+1,_,cap5,by omega,by go_num,rfl,fV.out,fP.out⟩
    case measure=>simp [intOf];omega
   ·obtain rfl:j=ln:=by omega
    have hpl:(gp l).length=j:=by rw [lF];exact jh.out.symm
    have hown:=HO.out
    rw [List.take_of_length_le (by omega)] at hown
    rcases Nat.eq_zero_or_pos j with h0 | aeX
    ·subst h0
     have hl0:gp l=[]:=List.eq_nil_of_length_eq_zero hpl
     have hjn:=anc (Tryz.strings_Join_none A' c' ⟨#[32]⟩ wr)
     have Og:Hid (pr=[40,41]):=anc (by rw [BX.out,dH,if_pos rfl,hl0];rfl)
     clear hown
     go_wp2_with fail
     refine (hjn.out).mono ?_
     rintro e w2 ⟨rfl,hw2⟩
     obtain rfl:wr=w2:=hw2.symm
     clear hw2
     go_wp2_with fail
     go_ret
     exact ⟨by rw [Og.out];rfl,dC.out⟩
    ·obtain ⟨g,cap,hv,_,hgl⟩:=hown.form aeX
     have hA':A'=some ⟨g,0,none⟩:=by injection hv
     have hcap:j≤c':=by
      rcases hown.2 with ⟨h,h0⟩ | ⟨_,cap2,_,h,_,_,h2,_⟩
      ·omega
      ·injection h with _ _ h;omega
     subst hA'
     have hcells:∀ (i:Nat) x,((gp l).map fun x=>(⟨x.toArray⟩:ByteArray))[i]?=some x→wr.cell? ⟨g,0+i,none⟩=some (.string x):=fun i x hx=>by
      have hi2:i<j:=by have:=(List.getElem?_eq_some_iff.1 hx).1;rw [List.length_map,hpl] at this;exact this
      rw [Nat.zero_add,hown.cellAt i (by omega)]
      rw [List.getElem?_map] at hx
      unfold BZ
      rw [List.getElem?_map]
      cases hq:(gp l)[i]? with
      | none=>rw [hq] at hx;cases hx
      | some y=>rw [hq] at hx;simp at hx;subst hx;rfl
     have hmm:((gp l).map fun x=>(⟨x.toArray⟩:ByteArray)).map (·.data.toList)=gp l:=by
      rw [List.map_map]
      conv=>rhs;rw [←List.map_id (gp l)]
      apply List.map_congr_left
      intro x _
      simp
     have S9:=Tryz.strings_Join g 0 c' ((gp l).map fun x=>(⟨x.toArray⟩:ByteArray)) ⟨#[32]⟩ wr hcells hgl (by rw [List.length_map,hpl];omega) (by rw [List.length_map,hpl];exact hcap) (by rw [hmm];have:=HLJ.out;show (Lib.join (gp l) [32]).length≤_;omega)
     rw [List.length_map,hpl,hmm] at S9
     have HJ:Hid (Calls Tryz.prog 61 #[.slice (some ⟨g,0,none⟩) j c',.string ⟨#[32]⟩] wr fun e w'=>e=.returned (.string ⟨(Lib.join (gp l) [32]).toArray⟩)∧Below wr.heap.size wr w'):=anc S9
     have Og:Hid (pr=40::(Lib.join (gp l) [32]++[41])):=anc (by rw [BX.out,dH,if_pos rfl])
     have HSZ:=HLJ.out
     generalize Lib.join (gp l) [32]=jn at *
     have hz1':(⟨jn.toArray⟩:ByteArray).size=jn.length:=rfl
     have hz2':(⟨#[40]⟩++(⟨jn.toArray⟩:ByteArray)).size=1+jn.length:=by rw [ByteArray.size_append];rfl
     clear hcells hmm S9 hown hv
     go_wp2_with fail
     refine (HJ.out).mono ?_
     rintro e w2 ⟨rfl,hb2⟩
     have HB2:=anc (dC.out.trans (hb2.mono dC.out.size))
     clear hb2
     go_wp2_with fail
     go_ret
     exact ⟨by rw [Og.out,←LM];rfl,HB2.out⟩
 ·have Zb:(k==1)=false:=by simpa using h1
  by_cases h2:k=2
  ·subst h2
   have Og:Hid (pr=s.data.toList):=anc (by rw [BX.out,dH,if_neg (by decide),if_pos rfl])
   clear Zb hl hk h1
   go_enter Tryz.func31,Tryz.ntmps31
   go_upto_region 1 with (fail)
   rw [←HW1.out]
   go_wp2_with fail
   go_ret
   exact ⟨by rw [Og.out];rfl,HB1.out⟩
  ·by_cases h3:k=3
   ·subst h3
    have Og:Hid (pr=Lib.itoa n):=anc (by rw [BX.out,dH,if_neg (by decide),if_neg (by decide),if_pos rfl])
    have hf:=anc (Tryz.strconv_FormatInt_10 n n1 n2 w1 (HT.out w1 HB1.out))
    clear Zb hl hk h1 h2
    go_enter Tryz.func31,Tryz.ntmps31
    go_upto_region 1 with (fail)
    rw [←HW1.out]
    go_wp2_with fail
    refine (hf.out).mono ?_
    rintro e w2 ⟨rfl,q,os,rfl⟩
    have B2:=anc (HB1.out.trans (Lib.below_grow w.heap.size _ HB1.out.size q os))
    go_wp2_with fail
    go_ret
    exact ⟨by rw [Og.out];rfl,B2.out⟩
   ·have aeY:(k==2)=false:=by simpa using h2
    have aeZ:(k==3)=false:=by simpa using h3
    by_cases h4:k=4
    ·subst h4
     have Og:Hid (pr=pJ s):=anc (by rw [BX.out,dH,if_neg (by decide),if_neg (by decide),if_neg (by decide),if_pos rfl])
     have hv:=anc (fun w=>V8 s w)
     have hw:=anc (fun w=>SS s w)
     clear Zb aeY aeZ hl hk h1 h2 h3
     go_enter Tryz.func31,Tryz.ntmps31
     go_upto_region 1 with (fail)
     rw [←HW1.out]
     go_wp2_with fail
     refine (hv.out _).mono ?_
     rintro e w2 ⟨rfl,hb2⟩
     have HB2:=anc (HB1.out.trans (hb2.mono HB1.out.size))
     clear hb2
     go_wp2_with fail
     refine (hw.out _).mono ?_
     rintro e w3 ⟨rfl,hb3⟩
     have HB3:=anc (HB2.out.trans (hb3.mono HB2.out.size))
     clear hb3
     go_wp2_with fail
     go_ret
     exact ⟨by rw [Og.out];rfl,HB3.out⟩
    ·have akf:(k==4)=false:=by simpa using h4
     have Og:Hid (pr=[]):=anc (by rw [BX.out,dH,if_neg h1,if_neg h2,if_neg h3,if_neg h4])
     clear hl hk
     go_enter Tryz.func31,Tryz.ntmps31
     go_upto_region 1 with (fail)
     rw [←HW1.out]
     go_wp2_with fail
     go_ret
     exact ⟨by rw [Og.out];rfl,HB1.out⟩
theorem print_any:∀ t,Gw t:=T.ind LP
theorem Af {s:ByteArray} {i:Nat} {n:Int} {e:Nat} (hi:i<s.size)(h:gQ s i=some (n,e)):i<e∧e≤s.size:=by
 unfold gQ at h
 have hf:i≤gK s i∧gK s i≤s.size:=by unfold gK;split <;> omega
 have hr:=nP (p:=jr) (s:=s) _ (gK s i) rfl
 split at h
 ·cases h
 ·rename_i hne
  split at h
  ·injection h with h
   injection h with _ h
   subst h
   exact ⟨by omega,hr.2 hf.2⟩
  ·cases h
theorem Cb {s:ByteArray} {i:Nat} (wh:Bool)(hi:i<s.size):(dO s i wh).1.kids=[]∧((dO s i wh).2.2.1=0→(i:Int)<(dO s i wh).2.1∧(dO s i wh).2.1≤s.size∧wh=false)∧((dO s i wh).2.2.1≠0→0≤(dO s i wh).2.2.2∧(dO s i wh).2.2.2≤s.size):=by
 unfold dO
 split
 ·exact ⟨rfl,fun h=>by simp at h,fun _=>⟨by simp only;omega,by simp only;omega⟩⟩
 ·rename_i hw
  have hwh:jT (bt s i)=true∨jr (bt s i)=true∨((bt s i).toNat:Int)=45∨((bt s i).toNat:Int)=34→wh=false:=fun h=>by
   cases wh
   ·rfl
   ·exact absurd (by simp;rcases h with h | h | h | h <;> simp [h]) hw
  split
  ·rename_i hl
   have hr:=nP (p:=jT) (s:=s) _ i rfl
   have hlt:=N8 hi hl
   exact ⟨rfl,fun _=>⟨by simp only;omega,by have:=hr.2 (by omega);simp only;omega,hwh (.inl hl)⟩,fun h=>by simp at h⟩
  ·split
   ·rename_i hd
    have hdd:wh=false:=hwh (by
     simp only [Bool.or_eq_true,decide_eq_true_eq] at hd
     rcases hd with h | h
     ·exact .inr (.inl h)
     ·exact .inr (.inr (.inl h)))
    cases hq:gQ s i with
    | none=>exact ⟨rfl,fun h=>by simp at h,fun _=>⟨by simp only;omega,by simp only;omega⟩⟩
    | some ne =>
      obtain ⟨n,e⟩:=ne
      have:=Af hi hq
      exact ⟨rfl,fun _=>⟨by simp only;omega,by simp only;omega,hdd⟩,fun h=>by simp at h⟩
   ·split
    ·rename_i qR
     have ht:=BH s i _ (i+1) [] rfl (by omega) (by omega) (by omega) (by simp)
     exact ⟨rfl,fun h=>⟨by have:=(ht.1 h).1;simp only [textE];omega,by have:=(ht.1 h).2;simp only [textE];omega,hwh (.inr (.inr (.inr qR)))⟩,fun h=>ht.2.1 h⟩
    ·exact ⟨rfl,fun h=>by simp at h,fun _=>⟨by simp only;omega,by simp only;omega⟩⟩
section
variable {s:ByteArray} {op dn:List T} {i:Nat}
theorem nV (h:i<s.size)(hb:((bt s i).toNat:Int)=32∨((bt s i).toNat:Int)=10):bf s op dn i=bf s op dn (i+1):=by
 rw [bf.eq_def,dif_pos h,if_pos hb]
theorem vK (h:i<s.size)(hc:((bt s i).toNat:Int)=40):bf s op dn i=if 12≤op.length then (aH,14,(i:Int)) else if 0<dn.length then (aH,11,(i:Int)) else bf s (op++[.mk 1 ⟨#[]⟩ 0 [] i]) dn (i+1):=by
 rw [bf.eq_def,dif_pos h,if_neg (by omega),if_pos hc]
theorem xJ (h:i<s.size)(hc:((bt s i).toNat:Int)=41)(hop:op.length=0):bf s op dn i=(aH,12,(i:Int)):=by
 rw [bf.eq_def,dif_pos h,if_neg (by omega),if_neg (by omega),if_pos hc]
 have e0:op=[]:=List.eq_nil_of_length_eq_zero hop
 subst e0
 rfl
theorem rY {m:Nat} {t:T} (h:i<s.size)(hc:((bt s i).toNat:Int)=41)(hm:op.length=m+1)(ht:op[m]?=some t):bf s op dn i=bf s (kT (op.take m) dn t).1 (kT (op.take m) dn t).2 (i+1):=by
 rw [bf.eq_def,dif_pos h,if_neg (by omega),if_neg (by omega),if_pos hc,hm,Nat.add_sub_cancel,ht]
theorem E5 (h:i<s.size)(h32:¬((bt s i).toNat:Int)=32)(h10:¬((bt s i).toNat:Int)=10)(xK:¬((bt s i).toNat:Int)=40)(KI:¬((bt s i).toNat:Int)=41)(hw:¬(dO s i (decide (0<dn.length))).2.2.1=0) :
 bf s op dn i=(aH,(dO s i (decide (0<dn.length))).2.2.1,(dO s i (decide (0<dn.length))).2.2.2):=by
 rw [bf.eq_def,dif_pos h,if_neg (by omega),if_neg xK,if_neg KI,if_neg hw]
theorem vM (h:i<s.size)(h32:¬((bt s i).toNat:Int)=32)(h10:¬((bt s i).toNat:Int)=10)(xK:¬((bt s i).toNat:Int)=40)(KI:¬((bt s i).toNat:Int)=41)(hw:(dO s i (decide (0<dn.length))).2.2.1=0) :
 bf s op dn i=bf s (kT op dn (dO s i (decide (0<dn.length))).1).1 (kT op dn (dO s i (decide (0<dn.length))).1).2 (dO s i (decide (0<dn.length))).2.1.toNat:=by
 rw [bf.eq_def,dif_pos h,if_neg (by omega),if_neg xK,if_neg KI,if_pos hw,dif_pos ((Cb _ h).2.1 hw).1]
theorem yX (h:¬i<s.size):bf s op dn i=if 0<op.length then (aH,(10:Int),(s.size:Int)) else match dn with
 | t::_=>(t,(0:Int),(0:Int))
 | []=>(aH,(10:Int),(s.size:Int)):=by
 rw [bf.eq_def,dif_neg h]
 all_goals (cases dn <;> rfl)
end
theorem Zc {s:ByteArray} {i:Nat} (h:i<s.size):s.data.toList[i]?=some (bt s i):=by
 rw [oZ h,anr (by simpa using h)]
 simp
 rfl
theorem lT {s:ByteArray} {i:Nat} {c:UInt8} {r:List UInt8} (h:s.data.toList.drop i=c::r):i<s.size∧bt s i=c∧s.data.toList.drop (i+1)=r:=by
 have hi:i<s.size:=by
  rcases Nat.lt_or_ge i s.size with hi | hi
  ·exact hi
  ·rw [List.drop_eq_nil_of_le (by simpa using hi)] at h;cases h
 have hg:=Zc hi
 rw [←List.head?_drop,h] at hg
 refine ⟨hi,by simpa using hg.symm,?_⟩
 rw [←List.drop_drop,h]
 rfl
theorem bt_end {s:ByteArray} {i:Nat} (h:s.data.toList.drop i=[]):¬i<s.size:=by
 intro hi
 have:=List.drop_eq_nil_iff.1 h
 simp at this
 omega
theorem yY {s:ByteArray} {i:Nat} {L r:List UInt8} (h:s.data.toList.drop i=L++r):s.data.toList.drop (i+L.length)=r:=by
 rw [←List.drop_drop,h,List.drop_left]
theorem E8 {s:ByteArray} {i:Nat} {L r:List UInt8} (h:s.data.toList.drop i=L++r):s.extract i (i+L.length)=⟨L.toArray⟩:=by
 apply ByteArray.ext
 apply Array.ext'
 have e:(s.extract i (i+L.length)).data.toList=(s.data.toList.drop i).take L.length:=by
  rw [ByteArray.data_extract,Array.toList_extract]
  simp [List.extract]
 rw [e,h,List.take_left]
theorem uu {p:UInt8→Bool} {s:ByteArray}:∀ (L:List UInt8)(i:Nat)(r:List UInt8),s.data.toList.drop i=L++r→(∀ c∈L,p c=true)→(∀ c x,r=c::x→p c=false)→iQ p s i=i+L.length
 | [],i,r,h,_,hr=>by
   cases r with
   | nil=>exact rC (bt_end h)
   | cons c x =>
     obtain ⟨h1,h2,_⟩:=lT h
     exact o7 (by rw [h2];exact hr c x rfl)
 | c::L,i,r,h,hL,hr=>by
   obtain ⟨h1,h2,h3⟩:=lT h
   rw [mW h1 (by rw [h2];exact hL c List.mem_cons_self),uu L (i+1) r h3 (fun c hc=>hL c (List.mem_cons_of_mem _ hc)) hr,List.length_cons]
   omega
def I4 (r:List UInt8):Prop:=∀ c x,r=c::x→c=32∨c=41
theorem I4.let {r:List UInt8} (h:I4 r):∀ c x,r=c::x→jT c=false:=fun c x e=>by
 rcases h c x e with rfl | rfl <;> rfl
theorem I4.dig {r:List UInt8} (h:I4 r):∀ c x,r=c::x→jr c=false:=fun c x e=>by
 rcases h c x e with rfl | rfl <;> rfl
theorem nX:∀ (l:List UInt8)(M acc v:Nat)(r:List UInt8),Lib.parseUintM M acc l=.ok v→Lib.parseUintM M acc (l++r)=Lib.parseUintM M v r
 | [],M,acc,v,r,h=>by
   rw [Lib.parseUintM] at h
   injection h with h
   rw [List.nil_append,h]
 | c::l,M,acc,v,r,h=>by
   rw [Lib.parseUintM] at h
   rw [List.cons_append,Lib.parseUintM]
   split at h
   ·rename_i h1
    rw [if_pos h1]
    split at h
    ·cases h
    ·rename_i h2
     rw [if_neg h2]
     split at h
     ·cases h
     ·rename_i h3
      rw [if_neg h3]
      exact nX l M _ v r h
   ·cases h
theorem yZ {d:Nat} (h:d<10):(UInt8.ofNat (48+d)).toNat=48+d:=by
 rw [UInt8.toNat_ofNat']
 omega
theorem PM (M:Nat)(hM:M<18446744073709551616):∀ (u:Nat),u≤M→Lib.parseUintM M 0 (Lib.decDigits u)=.ok u:=by
 intro u
 induction u using Nat.strongRecOn with
 | _ u ih =>
   intro hu
   by_cases h:u<10
   ·rw [Lib.decDigits,dif_pos h,Lib.parseUintM,yZ h,if_pos (by omega),if_neg (by omega),if_neg (by omega),Lib.parseUintM]
    congr 1
    omega
   ·rw [Lib.decDigits,dif_neg h,nX _ _ _ _ _ (ih (u / 10) (by omega) (by omega)),Lib.parseUintM,yZ (by omega),if_pos (by omega),if_neg (by omega),if_neg (by omega),Lib.parseUintM]
    congr 1
    omega
theorem y8 (u:Nat):Lib.decDigits u≠[]:=by
 rw [Lib.decDigits]
 split <;> simp
theorem xM (u:Nat):∀ c∈Lib.decDigits u,jr c=true:=by
 induction u using Nat.strongRecOn with
 | _ u ih =>
   intro c hc
   have hd:∀ d,d<10→jr (UInt8.ofNat (48+d))=true:=fun d hd=>by
    unfold jr
    rw [yZ hd]
    simp
    omega
   by_cases h:u<10
   ·rw [Lib.decDigits,dif_pos h] at hc
    rw [List.mem_singleton.1 hc]
    exact hd u h
   ·rw [Lib.decDigits,dif_neg h] at hc
    rcases List.mem_append.1 hc with hc | hc
    ·exact ih _ (by omega) c hc
    ·rw [List.mem_singleton.1 hc]
     exact hd _ (by omega)
theorem Fa {u:Nat} (hu:u<18446744073709551616):Lib.parseUintB 64 (Lib.decDigits u)=.ok u:=by
 unfold Lib.parseUintB
 rw [if_neg (y8 u)]
 exact PM _ (by decide) u (by omega)
theorem Gx {c:UInt8} (h:jr c=true):c.toNat≠43∧c.toNat≠45∧c≠34∧jT c=false∧c.toNat≠32∧c.toNat≠10∧c.toNat≠40∧c.toNat≠41:=by
 unfold jr at h
 simp at h
 refine ⟨by omega,by omega,fun e=>?_,?_,by omega,by omega,by omega,by omega⟩
 ·subst e
  simp at h
 ·unfold jT
  simp
  omega
theorem LQ {n:Int} (h1:-9223372036854775808≤n)(h2:n≤9223372036854775807):Lib.parseIntB 64 (Lib.itoa n)=.ok n:=by
 unfold Lib.itoa
 split
 ·rename_i hn
  rw [Lib.parseIntB_minus,Fa (by omega)]
  unfold Lib.signedC
  simp only
  rw [if_neg (by omega)]
  congr 1
  omega
 ·rename_i hn
  cases hd:Lib.decDigits n.toNat with
  | nil=>exact absurd hd (y8 _)
  | cons c r =>
    have hc:=Gx (xM n.toNat c (by rw [hd];exact List.mem_cons_self))
    rw [Lib.parseIntB_plain 64 c r hc.1 hc.2.1,←hd,Fa (by omega)]
    unfold Lib.signlessC
    simp only
    rw [if_neg (by omega)]
    congr 1
    omega
theorem LU (n:Int):∃ c r,Lib.itoa n=c::r∧(jr c=true∨c=45):=by
 unfold Lib.itoa
 split
 ·exact ⟨45,_,rfl,.inr rfl⟩
 ·cases hd:Lib.decDigits n.toNat with
  | nil=>exact absurd hd (y8 _)
  | cons c r=>exact ⟨c,r,rfl,.inl (xM n.toNat c (by rw [hd];exact List.mem_cons_self))⟩
theorem I5 {s:ByteArray} {i:Nat} {n:Int} {r:List UInt8} (h:s.data.toList.drop i=Lib.itoa n++r)(hr:I4 r)(h1:-9223372036854775808≤n)(h2:n≤9223372036854775807):gQ s i=some (n,i+(Lib.itoa n).length):=by
 have hrun:iQ jr s (gK s i)=i+(Lib.itoa n).length∧gK s i<i+(Lib.itoa n).length:=by
  unfold Lib.itoa at h ⊢
  by_cases hn:n<0
  ·rw [if_pos hn] at h ⊢
   obtain ⟨g1,g2,g3⟩:=lT (c:=45) (r:=Lib.decDigits n.natAbs++r) h
   have e:gK s i=i+1:=by unfold gK;rw [g2];rfl
   rw [e,uu _ (i+1) r g3 (xM _) hr.dig,List.length_cons]
   have:=List.length_pos_iff.2 (y8 n.natAbs)
   omega
  ·rw [if_neg hn] at h ⊢
   have hp:=List.length_pos_iff.2 (y8 n.toNat)
   have e:gK s i=i:=by
    cases hd:Lib.decDigits n.toNat with
    | nil=>exact absurd hd (y8 _)
    | cons c x =>
      rw [hd] at h
      obtain ⟨g1,g2,g3⟩:=lT (c:=c) (r:=x++r) h
      have hc:=Gx (xM n.toNat c (by rw [hd];exact List.mem_cons_self))
      unfold gK
      rw [g2,if_neg (by have:=hc.2.1;omega)]
   rw [e,uu _ i r h (xM _) hr.dig]
   omega
 unfold gQ
 rw [hrun.1,if_neg (by have:=hrun.2;omega),E8 h,LQ h1 h2]
theorem Tc:∀ d:Fin 16,jf (hexD d.val)=(d.val:Int):=by decide +kernel
theorem Td {d:Nat} (h:d<16):jf (hexD d)=(d:Int):=Tc ⟨d,h⟩
theorem Tf:∀ c:Fin 256,vk ((c.val / 16:Nat):Int) ((c.val % 16:Nat):Int)=UInt8.ofNat c.val:=by decide +kernel
theorem Zd (c:UInt8):vk ((c.toNat / 16:Nat):Int) ((c.toNat % 16:Nat):Int)=c:=by
 rw [Tf ⟨c.toNat,c.toNat_lt⟩]
 simp
theorem zf {s:ByteArray} {p:Nat}:∀ (l:List UInt8)(i:Nat)(acc r:List UInt8),s.data.toList.drop i=l.flatMap qB++34::r→(acc++l).length≤40 →
 fO s p i acc=(acc++l,i+(l.flatMap qB).length+1,0,0)
 | [],i,acc,r,h,hl=>by
   obtain ⟨g1,g2,g3⟩:=lT (c:=34) (r:=r) h
   rw [nR g1 (by rw [g2];rfl),if_neg (by simp at hl;omega)]
   simp
 | c::l,i,acc,r,h,hl=>by
   rw [List.flatMap_cons,List.append_assoc] at h
   have hl':((acc++[c])++l).length≤40:=by simpa using hl
   by_cases hp:lD c=true
   ·have hq:qB c=[c]:=by unfold qB;rw [if_pos hp]
    rw [hq] at h
    obtain ⟨g1,g2,g3⟩:=lT (c:=c) (r:=l.flatMap qB++34::r) h
    unfold lD at hp
    simp at hp
    have qR:¬((bt s i).toNat:Int)=34:=by rw [g2];intro e;exact hp.1.2 (by omega)
    have BG:¬((bt s i).toNat:Int)=92:=by rw [g2];intro e;exact hp.2 (by omega)
    rw [pY g1 qR BG (by rw [g2];omega),zf l (i+1) _ r g3 (by rw [g2];exact hl'),List.flatMap_cons,hq,g2]
    simp
    omega
   ·have hq:qB c=[92,hexD (c.toNat / 16),hexD (c.toNat % 16)]:=by unfold qB;rw [if_neg hp]
    rw [hq] at h
    obtain ⟨g1,g2,g3⟩:=lT (c:=92) (r:=hexD (c.toNat / 16)::hexD (c.toNat % 16)::(l.flatMap qB++34::r)) h
    obtain ⟨k1,k2,k3⟩:=lT g3
    obtain ⟨m1,m2,m3⟩:=lT k3
    have hlt:=c.toNat_lt
    have e1:jf (bt s (i+1))=((c.toNat / 16:Nat):Int):=by rw [k2];exact Td (by omega)
    have e2:jf (bt s (i+2))=((c.toNat % 16:Nat):Int):=by rw [m2];exact Td (by omega)
    rw [zX g1 (by rw [g2];rfl) k1 (by rw [e1];omega) m1 (by rw [e2];omega),e1,e2,Zd,zf l (i+3) _ r m3 hl',List.flatMap_cons,hq]
    simp
    omega
theorem V9 {c:UInt8} (h:jT c=true):c.toNat≠32∧c.toNat≠10∧c.toNat≠40∧c.toNat≠41:=by
 unfold jT at h
 simp at h
 exact ⟨by omega,by omega,by omega,by omega⟩
inductive AL:T→Prop
 | atom (s:ByteArray)(a:Int)(h0:s.data.toList≠[])(h:∀ c∈s.data.toList,jT c=true):AL (.mk 2 s 0 [] a)
 | num (n a:Int)(h1:-9223372036854775808≤n)(h2:n≤9223372036854775807):AL (.mk 3 ⟨#[]⟩ n [] a)
 | str (s:ByteArray)(a:Int)(h:s.size≤40):AL (.mk 4 s 0 [] a)
 | node (l:List T)(a:Int)(h:∀ e∈l,AL e):AL (.mk 1 ⟨#[]⟩ 0 l a)
mutual
def iI:T→Nat | .mk k _ _ l _=>if k=1 then iq l+1 else 0
def iq:List T→Nat | []=>0 | x::l=>max (iI x) (iq l)
end
mutual
def era:T→T | .mk k s n l _=>.mk k s n (AO l) 0
def AO:List T→List T | []=>[] | x::l=>era x::AO l
end
theorem ja (l:List T):AO l=l.map era:=by
 induction l with
 | nil=>rw [AO];rfl
 | cons x l ih=>rw [AO,ih];rfl
def vN (s:ByteArray)(t:T):Prop:=∀ (op:List T)(i:Nat)(r:List UInt8),s.data.toList.drop i=dH t++r→I4 r →
 (op.length+iI t≤12→∃ t',era t'=era t∧bf s op [] i=bf s (kT op [] t').1 (kT op [] t').2 (i+(dH t).length))∧(12<op.length+iI t→op.length≤12→(bf s op [] i).2.1=14)
theorem zg {s:ByteArray} {op:List T} {i m:Nat} {t:T} {c:UInt8} {x:List UInt8} (h:s.data.toList.drop i=c::x)(h32:c.toNat≠32)(h10:c.toNat≠10)(xK:c.toNat≠40)(KI:c.toNat≠41)(h1:dO s i false=(t,(m:Int),0,0)) :
 bf s op [] i=bf s (kT op [] t).1 (kT op [] t).2 m:=by
 obtain ⟨g1,g2,_⟩:=lT h
 have e:decide (0<([]:List T).length)=false:=rfl
 rw [vM g1 (by rw [g2];omega) (by rw [g2];omega) (by rw [g2];omega) (by rw [g2];omega) (by rw [e,h1]),e,h1]
 simp
theorem mY {k:Int} (h:k≠1)(s:ByteArray)(n:Int)(l:List T)(a:Int):iI (.mk k s n l a)=0:=by
 unfold iI
 rw [if_neg h]
theorem ba_eq (s:ByteArray):(⟨s.data.toList.toArray⟩:ByteArray)=s:=by
 apply ByteArray.ext
 simp
theorem PN (s:ByteArray)(w:ByteArray)(a:Int)(h0:w.data.toList≠[])(h:∀ c∈w.data.toList,jT c=true):vN s (.mk 2 w 0 [] a):=by
 intro op i r hd hr
 rw [mY (by decide)]
 refine ⟨fun _=>⟨.mk 2 w 0 [] i,?_,?_⟩,fun h1 h2=>by omega⟩
 ·simp only [era]
 ·have hp:dH (.mk 2 w 0 [] a)=w.data.toList:=by unfold dH;rw [if_neg (by decide),if_pos rfl]
  rw [hp] at hd ⊢
  cases hw:w.data.toList with
  | nil=>exact absurd hw h0
  | cons c x =>
    have hc:=h c (by rw [hw];exact List.mem_cons_self)
    have hcn:=V9 hc
    have hd':=hd
    rw [hw] at hd'
    rw [←hw]
    obtain ⟨g1,g2,g3⟩:=lT (c:=c) (r:=x++r) hd'
    refine zg hd' hcn.1 hcn.2.1 hcn.2.2.1 hcn.2.2.2 ?_
    unfold dO
    rw [Bool.false_and,if_neg (by decide),g2,if_pos hc,uu _ i r hd h hr.let,E8 hd,ba_eq]
theorem Ti (s:ByteArray)(n a:Int)(h1:-9223372036854775808≤n)(h2:n≤9223372036854775807):vN s (.mk 3 ⟨#[]⟩ n [] a):=by
 intro op i r hd hr
 rw [mY (by decide)]
 refine ⟨fun _=>⟨.mk 3 ⟨#[]⟩ n [] i,?_,?_⟩,fun h1 h2=>by omega⟩
 ·simp only [era]
 ·have hp:dH (.mk 3 ⟨#[]⟩ n [] a)=Lib.itoa n:=by unfold dH;rw [if_neg (by decide),if_neg (by decide),if_pos rfl]
  rw [hp] at hd ⊢
  have hnum:=I5 hd hr h1 h2
  obtain ⟨c,x,hcx,hc⟩:=LU n
  have hd':=hd
  rw [hcx] at hd'
  obtain ⟨g1,g2,g3⟩:=lT (c:=c) (r:=x++r) hd'
  have hq:jT c=false∧(jr c || decide ((c.toNat:Int)=45))=true∧c.toNat≠32∧c.toNat≠10∧c.toNat≠40∧c.toNat≠41:=by
   rcases hc with hc | rfl
   ·have:=Gx hc
    exact ⟨this.2.2.2.1,by rw [hc];rfl,this.2.2.2.2.1,this.2.2.2.2.2.1,this.2.2.2.2.2.2.1,this.2.2.2.2.2.2.2⟩
   ·decide
  refine zg hd' hq.2.2.1 hq.2.2.2.1 hq.2.2.2.2.1 hq.2.2.2.2.2 ?_
  unfold dO
  rw [Bool.false_and,if_neg (by decide),g2,hq.1,if_neg (by decide),if_pos hq.2.1,hnum]
theorem Tj (s:ByteArray)(w:ByteArray)(a:Int)(hw:w.size≤40):vN s (.mk 4 w 0 [] a):=by
 intro op i r hd hr
 rw [mY (by decide)]
 refine ⟨fun _=>⟨.mk 4 w 0 [] i,?_,?_⟩,fun h1 h2=>by omega⟩
 ·simp only [era]
 ·have hok:V.okB ⟨2,0,w⟩=true:=by
   unfold V.okB
   simp
   omega
  have hp:dH (.mk 4 w 0 [] a)=34::w.data.toList.flatMap qB++[34]:=by
   unfold dH
   rw [if_neg (by decide),if_neg (by decide),if_neg (by decide),if_pos rfl]
   unfold pJ
   rw [if_pos hok]
   rfl
  rw [hp] at hd ⊢
  obtain ⟨g1,g2,g3⟩:=lT (c:=34) (r:=w.data.toList.flatMap qB++34::r) (by rw [hd];simp)
  have ht:=zf (p:=i) w.data.toList (i+1) [] r g3 (by simpa using hw)
  refine zg (c:=34) (x:=w.data.toList.flatMap qB++34::r) (by rw [hd];simp) (by decide) (by decide) (by decide) (by decide) ?_
  unfold dO textE
  rw [Bool.false_and,if_neg (by decide),g2,ht,if_neg (by decide),if_neg (by decide),if_pos (by decide)]
  simp only [List.nil_append,ba_eq]
  congr 2
  simp
  omega
theorem Fb (op:List T)(p t:T):kT (op++[p]) [] t=(op++[p.kid t],[]):=by
 unfold kT
 have e:(op++[p])[(op++[p]).length-1]?=some p:=by simp
 rw [e]
 simp
theorem LV {s:ByteArray} {op:List T} {i:Nat} {x:List UInt8} (h:s.data.toList.drop i=32::x):bf s op [] i=bf s op [] (i+1):=by
 obtain ⟨g1,g2,_⟩:=lT h
 exact nV g1 (by rw [g2];exact .inl rfl)
theorem Cc {s:ByteArray} {op:List T} {p:T} {i:Nat} {x:List UInt8} (h:s.data.toList.drop i=41::x):bf s (op++[p]) [] i=bf s (kT op [] p).1 (kT op [] p).2 (i+1):=by
 obtain ⟨g1,g2,_⟩:=lT h
 rw [rY (m:=op.length) (t:=p) g1 (by rw [g2];rfl) (by simp) (by simp)]
 simp
theorem Fe {s:ByteArray} (op:List T)(a:Int)(hop:op.length+1≤12):∀ (l:List T),(∀ t∈l,vN s t)→∀ (ks:List T)(i:Nat)(r:List UInt8),s.data.toList.drop i=Lib.joinTail [32] (gp l)++41::r →
 (op.length+1+iq l≤12→∃ l',l'.map era=l.map era∧bf s (op++[.mk 1 ⟨#[]⟩ 0 ks a]) [] i=bf s (op++[.mk 1 ⟨#[]⟩ 0 (ks++l') a]) [] (i+(Lib.joinTail [32] (gp l)).length)) ∧
   (12<op.length+1+iq l→(bf s (op++[.mk 1 ⟨#[]⟩ 0 ks a]) [] i).2.1=14)
 | [],_,ks,i,r,_=>by
   refine ⟨fun _=>⟨[],rfl,?_⟩,fun h=>?_⟩
   ·rw [List.append_nil]
    simp [gp,Lib.joinTail]
   ·unfold iq at h
    omega
 | t::l,hb,ks,i,r,h=>by
   have e:Lib.joinTail [32] (gp (t::l))=32::(dH t++Lib.joinTail [32] (gp l)):=by
    rw [gp]
    simp [Lib.joinTail]
   rw [e] at h ⊢
   have hd1:s.data.toList.drop i=32::(dH t++(Lib.joinTail [32] (gp l)++41::r)):=by rw [h];simp
   obtain ⟨g1,g2,g3⟩:=lT hd1
   have hend:I4 (Lib.joinTail [32] (gp l)++41::r):=by
    intro c x hc
    cases l with
    | nil =>
      simp [gp,Lib.joinTail] at hc
      exact .inr hc.1.symm
    | cons y l =>
      rw [show Lib.joinTail [32] (gp (y::l))=32::(dH y++Lib.joinTail [32] (gp l)) by rw [gp];simp [Lib.joinTail]] at hc
      simp at hc
      exact .inl hc.1.symm
   have h1:=hb t List.mem_cons_self (op++[.mk 1 ⟨#[]⟩ 0 ks a]) (i+1) _ g3 hend
   rw [List.length_append,List.length_singleton] at h1
   have hdl:iq (t::l)=max (iI t) (iq l):=by rw [iq]
   rw [LV hd1,hdl]
   by_cases hx:op.length+1+iI t≤12
   ·obtain ⟨t',ht',hr'⟩:=h1.1 hx
    rw [Fb] at hr'
    simp only [T.kid,T.k,T.s,T.n,T.kids,T.at_] at hr'
    have h2:=Fe op a hop l (fun t ht=>hb t (List.mem_cons_of_mem _ ht)) (ks++[t']) (i+1+(dH t).length) r (yY g3)
    refine ⟨fun hm=>?_,fun hm=>?_⟩
    ·obtain ⟨l',hl',hr2⟩:=h2.1 (by omega)
     refine ⟨t'::l',by simp [ht',hl'],?_⟩
     rw [hr',hr2]
     simp
     congr 1
     omega
    ·rw [hr']
     exact h2.2 (by omega)
   ·refine ⟨fun hm=>by omega,fun hm=>h1.2 (by omega) (by omega)⟩
theorem PO {s:ByteArray} (l:List T)(a:Int)(hb:∀ t∈l,vN s t):vN s (.mk 1 ⟨#[]⟩ 0 l a):=by
 intro op i r hd hr
 have hp:dH (.mk 1 ⟨#[]⟩ 0 l a)=40::(Lib.join (gp l) [32]++[41]):=by unfold dH;rw [if_pos rfl]
 have hdp:iI (.mk 1 ⟨#[]⟩ 0 l a)=iq l+1:=by unfold iI;rw [if_pos rfl]
 have hcn:∀ l' a',l'.map era=l.map era→era (.mk 1 ⟨#[]⟩ 0 l' a')=era (.mk 1 ⟨#[]⟩ 0 l a):=fun l' a' e=>by
  rw [era,era,ja,ja,e]
 rw [hp] at hd ⊢
 rw [hdp]
 have hd1:s.data.toList.drop i=40::(Lib.join (gp l) [32]++41::r):=by rw [hd];simp
 obtain ⟨g1,g2,g3⟩:=lT hd1
 have ho:=vK (s:=s) (op:=op) (dn:=[]) g1 (by rw [g2];rfl)
 by_cases h12:12≤op.length
 ·rw [if_pos h12] at ho
  refine ⟨fun h=>by omega,fun _ _=>by rw [ho]⟩
 ·rw [if_neg h12,if_neg (by simp)] at ho
  have hop:op.length+1≤12:=by omega
  rw [ho]
  cases l with
  | nil =>
    refine ⟨fun h=>⟨.mk 1 ⟨#[]⟩ 0 [] i,hcn [] i rfl,?_⟩,fun h=>by unfold iq at h;omega⟩
    have hg:s.data.toList.drop (i+1)=41::r:=by rw [g3];simp [gp,Lib.join_nil]
    rw [Cc hg]
    simp [gp,Lib.join_nil]
  | cons t l =>
    have ej:Lib.join (gp (t::l)) [32]=dH t++Lib.joinTail [32] (gp l):=by rw [gp,Lib.join_cons]
    rw [ej] at g3 ⊢
    have hg:s.data.toList.drop (i+1)=dH t++(Lib.joinTail [32] (gp l)++41::r):=by rw [g3];simp
    have hend:I4 (Lib.joinTail [32] (gp l)++41::r):=by
     intro c x hc
     cases l with
     | nil =>
       simp [gp,Lib.joinTail] at hc
       exact .inr hc.1.symm
     | cons y l =>
       rw [show Lib.joinTail [32] (gp (y::l))=32::(dH y++Lib.joinTail [32] (gp l)) by rw [gp];simp [Lib.joinTail]] at hc
       simp at hc
       exact .inl hc.1.symm
    have h1:=hb t List.mem_cons_self (op++[.mk 1 ⟨#[]⟩ 0 [] i]) (i+1) _ hg hend
    rw [List.length_append,List.length_singleton] at h1
    have hdl:iq (t::l)=max (iI t) (iq l):=by rw [iq]
    rw [hdl]
    by_cases hx:op.length+1+iI t≤12
    ·obtain ⟨t',ht',hr'⟩:=h1.1 hx
     rw [Fb] at hr'
     simp only [T.kid,T.k,T.s,T.n,T.kids,T.at_] at hr'
     have h2:=Fe op i hop l (fun t ht=>hb t (List.mem_cons_of_mem _ ht)) ([]++[t']) (i+1+(dH t).length) r (yY hg)
     refine ⟨fun hm=>?_,fun hm=>?_⟩
     ·obtain ⟨l',hl',hr2⟩:=h2.1 (by omega)
      refine ⟨.mk 1 ⟨#[]⟩ 0 (t'::l') i,hcn _ _ (by simp [ht',hl']),?_⟩
      rw [hr',hr2]
      rw [Cc (x:=r) (by rw [Nat.add_assoc,←List.length_append];exact yY (L:=dH t++Lib.joinTail [32] (gp l)) (by rw [hg];simp))]
      simp
      congr 1
      omega
     ·intro _
      rw [hr']
      exact h2.2 (by omega)
    ·refine ⟨fun hm=>by omega,fun hm _=>h1.2 (by omega) (by omega)⟩
theorem We (s:ByteArray):∀ t,AL t→vN s t:=by
 intro t h
 induction h with
 | atom w a h0 h=>exact PN s w a h0 h
 | num n a h1 h2=>exact Ti s n a h1 h2
 | str w a h=>exact Tj s w a h
 | node l a h ih=>exact PO l a ih
theorem LX {t:T} (h:AL t):(iI t≤12→∃ t',era t'=era t∧bf ⟨(dH t).toArray⟩ [] [] 0=(t',0,0))∧(12<iI t→(bf ⟨(dH t).toArray⟩ [] [] 0).2.1=14):=by
 have hb:=We ⟨(dH t).toArray⟩ t h [] 0 [] (by simp) (fun c x e=>by cases e)
 refine ⟨fun hd=>?_,fun hd=>hb.2 (by simpa using hd) (by simp)⟩
 obtain ⟨t',ht',hr⟩:=hb.1 (by simpa using hd)
 refine ⟨t',ht',?_⟩
 have e:kT [] [] t'=([],[t']):=rfl
 have hn:¬0+(dH t).length<(⟨(dH t).toArray⟩:ByteArray).size:=by
  show ¬_<(dH t).toArray.size
  simp
 rw [hr,e,yX hn]
 rfl
mutual
def dF:T→Nat | .mk k s _ l _=>(if k=2 then s.size else s.size+1)+dI l
def dI:List T→Nat | []=>0 | x::l=>dF x+dI l
end
theorem jy (a b:List T):dI (a++b)=dI a+dI b:=by
 induction a with
 | nil=>simp [dI]
 | cons x a ih=>rw [List.cons_append,dI,dI,ih,Nat.add_assoc]
theorem Gy (a b:List T):iq (a++b)=max (iq a) (iq b):=by
 induction a with
 | nil=>simp [iq]
 | cons x a ih=>rw [List.cons_append,iq,iq,ih,Nat.max_assoc]
theorem PQ (t:T):iq [t]=iI t:=by rw [iq,iq];omega
theorem mZ (t:T):dI [t]=dF t:=by rw [dI,dI];omega
def Ze (j:Nat)(t:T):Prop:=t.k=1∧t.s=⟨#[]⟩∧t.n=0∧(∀ e∈t.kids,AL e)∧iq t.kids+(j+1)≤12
structure I7 (op dn:List T)(c:Nat):Prop where
 o_:∀ j t,op[j]?=some t→Ze j t
 d_:∀ t∈dn,AL t∧iI t≤12
 cost:dI op+dI dn≤c
theorem Ze.ok {j:Nat} {t:T} (h:Ze j t):AL t∧iI t+j≤12:=by
 obtain ⟨k,s,n,l,a⟩:=t
 obtain ⟨h1,h2,h3,h4,h5⟩:=h
 simp only [T.k,T.s,T.n,T.kids] at h1 h2 h3 h4 h5
 subst h1 h2 h3
 refine ⟨.node l a h4,?_⟩
 rw [iI,if_pos rfl]
 omega
theorem I7.add {op dn:List T} {c:Nat} {t:T} (h:I7 op dn c)(ht:AL t)(hd:iI t+op.length≤12):I7 (kT op dn t).1 (kT op dn t).2 (c+dF t):=by
 rcases Nat.eq_zero_or_pos op.length with h0 | hpos
 ·have e0:op=[]:=List.eq_nil_of_length_eq_zero h0
  subst e0
  have e:kT [] dn t=([],dn++[t]):=rfl
  rw [e]
  refine ⟨fun j t h=>by simp at h,fun x hx=>?_,?_⟩
  ·rcases List.mem_append.1 hx with hx | hx
   ·exact h.d_ x hx
   ·rw [List.mem_singleton.1 hx]
    exact ⟨ht,by simpa using hd⟩
  ·have:=h.cost
   show dI []+dI (dn++[t])≤_
   rw [jy,mZ]
   omega
 ·obtain ⟨p,hp⟩:∃ p,op[op.length-1]?=some p:=⟨_,anr (by omega)⟩
  have e:kT op dn t=(op.set (op.length-1) (p.kid t),dn):=by
   unfold kT
   rw [hp]
  rw [e]
  have hpo:=h.o_ _ _ hp
  have hsplit:op=op.take (op.length-1)++[p]:=by
   have h1:=List.take_add_one (l:=op) (i:=op.length-1)
   rw [hp,Nat.sub_add_cancel hpos,List.take_length] at h1
   exact h1
  have hset:op.set (op.length-1) (p.kid t)=op.take (op.length-1)++[p.kid t]:=by
   conv=>lhs;rw [hsplit]
   rw [List.set_append_right _ _ (by simp)]
   simp
  have hck:dF (p.kid t)=dF p+dF t:=by
   obtain ⟨k,s,n,l,a⟩:=p
   show dF (.mk k s n (l++[t]) a)=_
   rw [dF,dF,jy,mZ]
   omega
  refine ⟨fun j x hx=>?_,h.d_,?_⟩
  ·rcases Nat.lt_or_ge j (op.length-1) with hj | hj
   ·rw [List.getElem?_set_ne (by omega)] at hx
    exact h.o_ j x hx
   ·have hj2:j<op.length:=by have:=(List.getElem?_eq_some_iff.1 hx).1;simpa using this
    obtain rfl:j=op.length-1:=by omega
    rw [List.getElem?_set_self (by omega)] at hx
    obtain rfl:p.kid t=x:=by simpa using hx
    obtain ⟨h1,h2,h3,h4,h5⟩:=hpo
    refine ⟨h1,h2,h3,fun e he=>?_,?_⟩
    ·rcases List.mem_append.1 (show e∈p.kids++[t] from he) with he | he
     ·exact h4 e he
     ·rw [List.mem_singleton.1 he];exact ht
    ·show iq (p.kids++[t])+_≤12
     rw [Gy,PQ]
     omega
  ·have h1:=h.cost
   rw [hsplit,jy,mZ] at h1
   show dI (op.set _ _)+dI dn≤_
   rw [hset,jy,mZ,hck]
   omega
theorem I8 {p:UInt8→Bool} {s:ByteArray}:∀ (n i:Nat),s.size-i=n→∀ j,i≤j→j<iQ p s i→p (bt s j)=true
 | n,i,hn,j,h1,h2=>by
   by_cases h:i<s.size
   ·cases hp:p (bt s i)
    ·rw [o7 hp] at h2;omega
    ·rw [mW h hp] at h2
     rcases Nat.eq_or_lt_of_le h1 with rfl | h3
     ·exact hp
     ·obtain ⟨m,rfl⟩:∃ m,n=m+1:=⟨n-1,by omega⟩
      exact I8 m (i+1) (by omega) j h3 h2
   ·rw [rC h] at h2;omega
theorem I9 {s:ByteArray} {i j:Nat} (hj:j≤s.size) {c:UInt8} (h:c∈(s.extract i j).data.toList):∃ k,i≤k∧k<j∧c=bt s k:=by
 obtain ⟨m,hm,e⟩:=List.mem_iff_getElem.1 h
 have hsz:m<j-i:=by
  have:(s.extract i j).data.toList.length=min j s.size-i:=by simp [ByteArray.data_extract];omega
  omega
 refine ⟨i+m,by omega,by omega,?_⟩
 rw [oZ (by omega),←e]
 simp [ByteArray.data_extract]
 rfl
theorem PS (s:ByteArray)(p:Nat):∀ (n i:Nat)(l:List UInt8),s.size-i=n→(fO s p i l).2.2.1=0→(fO s p i l).1.length+i+1≤l.length+(fO s p i l).2.1:=by
 intro n
 induction n using Nat.strongRecOn with
 | _ n ih =>
   intro i l hn h0
   by_cases h:i<s.size
   ·by_cases qR:((bt s i).toNat:Int)=34
    ·rw [nR h qR] at h0 ⊢
     split
     ·rename_i h'
      rw [if_pos h'] at h0
      simp at h0
     ·simp only;omega
    ·by_cases BG:((bt s i).toNat:Int)=92
     ·rw [ug h BG] at h0 ⊢
      by_cases h1:i+1<s.size
      ·rw [if_pos h1] at h0 ⊢
       by_cases h2:jf (bt s (i+1))<0
       ·rw [if_pos h2] at h0;simp at h0
       ·rw [if_neg h2] at h0 ⊢
        by_cases h3:i+2<s.size
        ·rw [if_pos h3] at h0 ⊢
         by_cases h4:jf (bt s (i+2))<0
         ·rw [if_pos h4] at h0;simp at h0
         ·rw [if_neg h4] at h0 ⊢
          have:=ih (s.size-(i+3)) (by omega) (i+3) _ rfl h0
          simp only [List.length_append,List.length_singleton] at this
          omega
        ·rw [if_neg h3] at h0;simp at h0
      ·rw [if_neg h1] at h0;simp at h0
     ·by_cases hb:((bt s i).toNat:Int)<32∨126<((bt s i).toNat:Int)
      ·rw [uf h qR BG hb] at h0;simp at h0
      ·rw [pY h qR BG hb] at h0 ⊢
       have:=ih (s.size-(i+1)) (by omega) (i+1) _ rfl h0
       simp only [List.length_append,List.length_singleton] at this
       omega
   ·rw [yN h] at h0;simp at h0
theorem Wh {s:ByteArray} {i:Nat} {wh:Bool} (hi:i<s.size)(h0:(dO s i wh).2.2.1=0):AL (dO s i wh).1∧iI (dO s i wh).1=0∧(i:Int)+(dF (dO s i wh).1:Int)≤(dO s i wh).2.1:=by
 unfold dO at h0 ⊢
 split at h0
 ·simp at h0
 ·rename_i hw
  rw [if_neg hw]
  split at h0
  ·rename_i hl
   rw [if_pos hl]
   have hr:=nP (p:=jT) (s:=s) _ i rfl
   have hlt:=N8 hi hl
   have hsz:(s.extract i (iQ jT s i)).size=iQ jT s i-i:=by
    have:=hr.2 (by omega)
    rw [ByteArray.size_extract]
    omega
   refine ⟨.atom _ _ (fun e=>?_) (fun c hc=>?_),mY (by decide) _ _ _ _,?_⟩
   ·have:(s.extract i (iQ jT s i)).data.toList.length=iQ jT s i-i:=by rw [←hsz];simp only [Array.length_toList];rfl
    rw [e] at this
    simp at this
    omega
   ·obtain ⟨k,k1,k2,rfl⟩:=I9 (hr.2 (by omega)) hc
    exact I8 _ i rfl k k1 k2
   ·simp only [dF,dI]
    rw [if_pos trivial,hsz]
    omega
  ·rename_i hl
   rw [if_neg hl]
   split at h0
   ·rename_i hd
    rw [if_pos hd]
    cases hq:gQ s i with
    | none=>rw [hq] at h0;simp at h0
    | some ne =>
      obtain ⟨n,e⟩:=ne
      have he:=Af hi hq
      refine ⟨.num n _ ?_ ?_,mY (by decide) _ _ _ _,?_⟩
      ·unfold gQ at hq
       split at hq
       ·cases hq
       ·split at hq
        ·rename_i v hv
         injection hq with hq
         injection hq with hq _
         subst hq
         have:=(Lib.parseIntB_bounds hv).1
         simpa using this
        ·cases hq
      ·unfold gQ at hq
       split at hq
       ·cases hq
       ·split at hq
        ·rename_i v hv
         injection hq with hq
         injection hq with hq _
         subst hq
         have:=(Lib.parseIntB_bounds hv).2
         simp at this
         omega
        ·cases hq
      ·simp only [dF,dI]
       rw [if_neg (by decide)]
       show (i:Int)+((0+1+0:Nat):Int)≤(e:Int)
       omega
   ·rename_i hd
    rw [if_neg hd]
    split at h0
    ·rename_i qR
     rw [if_pos qR]
     have ht:=BH s i _ (i+1) [] rfl (by omega) (by omega) (by omega) (by simp)
     have hlen:=PS s i _ (i+1) [] rfl h0
     refine ⟨.str _ _ ?_,mY (by decide) _ _ _ _,?_⟩
     ·exact ht.2.2.1
     ·simp only [dF,dI]
      rw [if_neg (by decide)]
      show (i:Int)+(((textE s i).1.length+1+0:Nat):Int)≤((textE s i).2.1:Int)
      unfold textE
      simp only [List.length_nil] at hlen
      omega
    ·simp at h0
theorem Tm (s:ByteArray):∀ (n i:Nat)(op dn:List T),s.size-i=n→i≤s.size→I7 op dn i→op.length≤12→(bf s op dn i).2.1=0→AL (bf s op dn i).1∧iI (bf s op dn i).1≤12∧dF (bf s op dn i).1≤s.size:=by
 intro n
 induction n using Nat.strongRecOn with
 | _ n ih =>
   intro i op dn hn hi hinv hop h0
   by_cases h:i<s.size
   ·by_cases hb:((bt s i).toNat:Int)=32∨((bt s i).toNat:Int)=10
    ·rw [nV h hb] at h0 ⊢
     exact ih (s.size-(i+1)) (by omega) (i+1) op dn rfl (by omega) ⟨hinv.o_,hinv.d_,by have:=hinv.cost;omega⟩ hop h0
    ·by_cases xK:((bt s i).toNat:Int)=40
     ·rw [vK h xK] at h0 ⊢
      by_cases h12:12≤op.length
      ·rw [if_pos h12] at h0;simp at h0
      ·rw [if_neg h12] at h0 ⊢
       by_cases hd:0<dn.length
       ·rw [if_pos hd] at h0;simp at h0
       ·rw [if_neg hd] at h0 ⊢
        refine ih (s.size-(i+1)) (by omega) (i+1) _ dn rfl (by omega) ⟨fun j t hj=>?_,hinv.d_,?_⟩ (by simp;omega) h0
        ·rcases Nat.lt_or_ge j op.length with hjl | hjl
         ·rw [List.getElem?_append_left hjl] at hj
          exact hinv.o_ j t hj
         ·rw [List.getElem?_append_right hjl] at hj
          have hj1:=(List.getElem?_eq_some_iff.1 hj).1
          simp at hj1
          obtain rfl:j=op.length:=by omega
          simp at hj
          subst hj
          exact ⟨rfl,rfl,rfl,(fun e he=>by cases he),by simp only [T.kids,iq];omega⟩
        ·have:=hinv.cost
         rw [jy,mZ]
         simp only [dF,dI]
         rw [if_neg (by decide)]
         show dI op+(0+1+0)+dI dn≤i+1
         omega
     ·by_cases KI:((bt s i).toNat:Int)=41
      ·rcases Nat.eq_zero_or_pos op.length with hz | hpos
       ·rw [xJ h KI hz] at h0;simp at h0
       ·obtain ⟨m,hm⟩:∃ m,op.length=m+1:=⟨op.length-1,by omega⟩
        obtain ⟨t,ht⟩:∃ t,op[m]?=some t:=⟨_,anr (by omega)⟩
        rw [rY h KI hm ht] at h0 ⊢
        have hto:=(hinv.o_ m t ht).ok
        have hsplit:op=op.take m++[t]:=by
         have h1:=List.take_add_one (l:=op) (i:=m)
         rw [ht,←hm,List.take_length] at h1
         exact h1
        have hc:=hinv.cost
        rw [hsplit,jy,mZ] at hc
        have hinv':I7 (op.take m) dn (i-dF t):=⟨(fun j x hj=>by
         rw [List.getElem?_take] at hj
         split at hj
         ·exact hinv.o_ j x hj
         ·cases hj),hinv.d_,by omega⟩
        have hadd:=hinv'.add hto.1 (by rw [List.length_take];omega)
        refine ih (s.size-(i+1)) (by omega) (i+1) _ _ rfl (by omega) ⟨hadd.o_,hadd.d_,by have:=hadd.cost;omega⟩ ?_ h0
        have hl:(kT (op.take m) dn t).1.length=(op.take m).length:=by
         unfold kT
         split <;> simp
        rw [hl,List.length_take]
        omega
      ·by_cases hw:(dO s i (decide (0<dn.length))).2.2.1=0
       ·rw [vM h (fun e=>hb (.inl e)) (fun e=>hb (.inr e)) xK KI hw] at h0 ⊢
        obtain ⟨k1,k2,k3⟩:=Wh h hw
        have ke:=(Cb (decide (0<dn.length)) h).2.1 hw
        have hadd:=hinv.add k1 (by rw [k2];omega)
        refine ih (s.size-(dO s i (decide (0<dn.length))).2.1.toNat) (by omega) _ _ _ rfl (by omega) ⟨hadd.o_,hadd.d_,by have:=hadd.cost;omega⟩ ?_ h0
        have hl:(kT op dn (dO s i (decide (0<dn.length))).1).1.length=op.length:=by
         unfold kT
         split <;> simp
        rw [hl]
        exact hop
       ·rw [E5 h (fun e=>hb (.inl e)) (fun e=>hb (.inr e)) xK KI hw] at h0
        exact absurd h0 hw
   ·rw [yX h] at h0 ⊢
    by_cases hp:0<op.length
    ·rw [if_pos hp] at h0;simp at h0
    ·rw [if_neg hp] at h0 ⊢
     cases dn with
     | nil=>simp at h0
     | cons t dn =>
       obtain ⟨k1,k2⟩:=hinv.d_ t List.mem_cons_self
       refine ⟨k1,k2,?_⟩
       have:=hinv.cost
       have e:dI (t::dn)=dF t+dI dn:=by rw [dI]
       rw [e] at this
       show dF t≤_
       omega
theorem Wi {s:ByteArray} (h:(bf s [] [] 0).2.1=0):AL (bf s [] [] 0).1∧iI (bf s [] [] 0).1≤12∧dF (bf s [] [] 0).1≤s.size :=
 Tm s _ 0 [] [] rfl (Nat.zero_le _) ⟨(fun j t h=>by simp at h),(fun t ht=>by cases ht),by simp [dI]⟩ (by simp) h
theorem Ah (t:T):(era t).k=t.k:=by obtain ⟨k,s,n,l,a⟩:=t;rw [era];rfl
theorem uS (t:T):(era t).s=t.s:=by obtain ⟨k,s,n,l,a⟩:=t;rw [era];rfl
theorem iw (t:T):(era t).kids=t.kids.map era:=by obtain ⟨k,s,n,l,a⟩:=t;rw [era,ja];rfl
theorem Tn:era aH=aH:=by rw [aH,era,AO]
theorem fD (l:List T)(i:Nat):(l.map era).getD i aH=era (l.getD i aH):=by
 rw [List.getD_eq_getElem?_getD,List.getD_eq_getElem?_getD,List.getElem?_map]
 cases l[i]? with
 | none=>exact Tn.symm
 | some x=>rfl
theorem uw (l:List T)(i:Nat):bT (l.map era) i=(bT l i).map era:=by
 unfold bT
 rw [List.length_map,List.map_take,List.map_drop]
theorem Ff:∀ (l:List T),(∀ t∈l,(aI (era t)).1=(aI t).1∧(aI (era t)).2.1=(aI t).2.1)→(aN (l.map era)).1=(aN l).1∧(aN (l.map era)).2.1=(aN l).2.1
 | [],_=>⟨rfl,rfl⟩
 | x::l,h=>by
   obtain ⟨h1,h2⟩:=h x List.mem_cons_self
   obtain ⟨g1,g2⟩:=Ff l fun t ht=>h t (List.mem_cons_of_mem _ ht)
   rw [List.map_cons,aN,aN,h1,h2]
   split
   ·exact ⟨by simp only [g1],g2⟩
   ·exact ⟨rfl,rfl⟩
theorem zh:∀ t:T,(aI (era t)).1=(aI t).1∧(aI (era t)).2.1=(aI t).2.1:=T.ind fun k s n l a ih=>by
 rw [era,ja]
 by_cases h2:k=2
 ·subst h2
  rw [rU,rU]
  split <;> exact ⟨rfl,rfl⟩
 ·by_cases h3:k=3
  ·subst h3
   rw [xx,xx]
   exact ⟨rfl,rfl⟩
  ·by_cases h4:k=4
   ·subst h4
    rw [xy,xy]
    exact ⟨rfl,rfl⟩
   ·by_cases h1:k=1
    ·subst h1
     cases l with
     | nil=>rw [List.map_nil,uj,uj];exact ⟨rfl,rfl⟩
     | cons x ks =>
       obtain ⟨g1,g2⟩:=Ff ks fun t ht=>ih t (List.mem_cons_of_mem _ ht)
       rw [List.map_cons,pF,pF,Ah,uS,List.length_map,g1,g2]
       repeat' split
       all_goals exact ⟨rfl,rfl⟩
    ·rw [xB h1 h2 h3 h4,xB h1 h2 h3 h4]
     exact ⟨rfl,rfl⟩
theorem vO (t:T):eP (era t)=eP t:=by
 unfold eP
 rw [Ah,iw,List.all_map]
 congr 2
 funext x
 simp only [Function.comp,Ah]
theorem Ja (t:T):aW (era t)=aW t:=by
 unfold aW
 rw [Ah,iw,List.length_map]
 congr 2
 cases t.kids with
 | nil=>rfl
 | cons x l=>simp only [List.map_cons,zY,Ah]
theorem Tq (t:T):ik (era t)=ik t:=by
 unfold ik
 rw [vO,iw,List.length_map]
theorem PT (w:List UInt8)(l:List T):bY w (l.map era)=bY w l:=by
 unfold bY
 rw [List.length_map,fD,fD,Ah,vO,vO,uw,uw,List.all_map,List.all_map]
 rw [show aW ∘ era=aW from funext Ja,show ik ∘ era=ik from funext Tq]
theorem PU (t:T):iR (era t)=iR t:=by
 unfold iR
 rw [Ah,iw]
 cases t.kids with
 | nil=>rfl
 | cons x l=>simp only [List.map_cons,o8,Ah,uS]
theorem PV (t:T):fA (era t)=fA t:=by
 unfold fA
 rw [PU,iw,PT]
theorem Tt (l:List T):kU (l.map era)=kU l:=by
 unfold kU
 rw [fD,fD,fD,uS,uS,uS,List.length_map]
theorem PW (kd:Int)(l:List T):aT kd (l.map era)=aT kd l:=by
 unfold aT
 rw [fD,fD,uS,(zh _).1,uw,uw,iw,iw,List.map_map,List.map_map,List.map_map,List.map_map,List.map_map]
 rw [show (T.s ∘ era)=T.s from funext uS,show ((fun c:T=>(aI (c.kids.getD 1 aH)).1) ∘ era)=(fun c:T=>(aI (c.kids.getD 1 aH)).1) from funext fun c=>by simp only [Function.comp,iw,fD,(zh _).1],
  show ((fun c:T=>(c.kids.getD 0 aH).s) ∘ era)=(fun c:T=>(c.kids.getD 0 aH).s) from funext fun c=>by simp only [Function.comp,iw,fD,uS],
  show ((fun c:T=>kU c.kids) ∘ era)=(fun c:T=>kU c.kids) from funext fun c=>by simp only [Function.comp,iw,Tt]]
theorem uy {a b:eY} (h:a.1=b.1)(e x y:Int):(rF e x a).1=(rF e y b).1:=by
 unfold rF
 rw [h]
 split
 ·rfl
 ·exact h
theorem lG {a b:eY} (h:a.1=b.1)(t:T):(eF (era t) a).1=(eF t b).1:=by
 unfold eF
 rw [uS]
 split
 ·exact h
 ·exact uy h _ _ _
theorem Ce {a b:eY} (h:a.1=b.1)(t:T):(kW (era t) a).1=(kW t b).1:=by
 unfold kW
 rw [(zh t).2]
 split
 ·exact h
 ·exact uy h _ _ _
theorem uz (f:T→eY→eY)(hf:∀ (a b:eY)(t:T),a.1=b.1→(f (era t) a).1=(f t b).1):∀ (l:List T)(a b:eY),a.1=b.1→((l.map era).foldl (fun s t=>f t s) a).1=(l.foldl (fun s t=>f t s) b).1
 | [],a,b,h=>h
 | x::l,a,b,h=>by
   rw [List.map_cons,List.foldl_cons,List.foldl_cons]
   exact uz f hf l _ _ (hf a b x h)
theorem rZ {a b:eY} (h:a.1=b.1)(l:List T):(dY (l.map era) a).1=(dY l b).1:=uz eF (fun a b t h=>lG h t) l a b h
theorem PX (l:List T):lM (l.map era)=lM l:=by
 unfold lM
 rw [fD,uS,List.length_map]
theorem Cf {a b:eY} (h:a.1=b.1)(l:List T):(lN (l.map era) a).1=(lN l b).1:=by
 unfold lN
 rw [fD,fD,PX]
 split
 ·exact lG h _
 ·exact uy (lG h _) _ _ _
theorem PY {a b:eY} (h:a.1=b.1)(l:List T):(mg (l.map era) a).1=(mg l b).1:=by
 unfold mg
 rw [fD,List.length_map]
 split
 ·exact lG (Cf h _) _
 ·exact Cf h _
theorem PZ {a b:eY} (h:a.1=b.1)(t:T):(rG (era t) a).1=(rG t b).1:=by
 unfold rG
 rw [iw,fD,fD]
 exact Ce (lG h _) _
theorem LY {a b:eY} (h:a.1=b.1)(kd:Int)(l:List T)(x y:Int):(dM kd (l.map era) x a).1=(dM kd l y b).1:=by
 unfold dM
 rw [fD,fD,uw,uw,iw,iw]
 repeat' split
 ·exact lG h _
 ·exact Ce h _
 ·exact uz rG (fun a b t h=>PZ h t) _ _ _ h
 ·exact rZ (rZ h _) _
 ·exact h
 ·exact h
 ·exact uz (fun t s=>mg t.kids s) (fun a b t h=>by simp only [iw];exact PY h _) _ _ _ (rZ h _)
 ·exact uy h _ _ _
theorem Fg:∀ (l:List T),(∀ t∈l,∀ a b:eY,a.1=b.1→(aX (era t) a).1=(aX t b).1∧(aX (era t) a).2.1=(aX t b).2.1)→∀ (m:Nat)(a b:eY),a.1=b.1 →
 (bM (l.map era) m a).1=(bM l m b).1∧(bM (l.map era) m a).2.1=(bM l m b).2.1
 | [],_,m,a,b,h=>by
   rw [List.map_nil,bM,bM]
   exact ⟨rfl,h⟩
 | x::l,hx,m,a,b,h=>by
   have hl:=Fg l fun t ht=>hx t (List.mem_cons_of_mem _ ht)
   rw [List.map_cons]
   cases m with
   | zero =>
     rw [bM,bM]
     obtain ⟨g1,g2⟩:=hx x List.mem_cons_self a b h
     obtain ⟨k1,k2⟩:=hl 0 _ _ g2
     exact ⟨by simp only [g1,k1],k2⟩
   | succ m =>
     rw [bM,bM]
     exact hl m a b h
theorem Fh:∀ t:T,∀ a b:eY,a.1=b.1→(aX (era t) a).1=(aX t b).1∧(aX (era t) a).2.1=(aX t b).2.1:=T.ind fun k s n l x ih a b h=>by
 have hk:=PV (.mk k s n l x)
 rw [era,ja] at hk ⊢
 rw [aX,aX,hk,PW,List.length_map]
 obtain ⟨g1,g2⟩:=Fg l ih (l.length-aJ (fA (.mk k s n l x))) _ _ (LY h (fA (.mk k s n l x)) l 0 x)
 exact ⟨by simp only [g1],g2⟩
theorem xN {e:Int} (he:e≠0)(x:Int)(s:eY):(rF e x s).1≠0:=by
 unfold rF
 split
 ·exact he
 ·assumption
theorem lU {t:T} {s:eY} (h:(eF t s).1=0):eF t s=s∧nameB t.s=true:=by
 unfold eF at h ⊢
 split at h
 ·rename_i hn
  rw [if_pos hn]
  exact ⟨rfl,hn⟩
 ·exact absurd h (xN (by decide) _ _)
theorem xO {t:T} {s:eY} (h:(kW t s).1=0):kW t s=s∧(aI t).2.1=0:=by
 unfold kW at h ⊢
 split at h
 ·rename_i hn
  rw [if_pos hn]
  exact ⟨rfl,hn⟩
 ·rename_i hn
  exact absurd h (xN hn _ _)
theorem uA (f:T→eY→eY)(Q:T→Prop)(hf:∀ (s:eY)(t:T),(f t s).1=0→f t s=s∧Q t):∀ (l:List T)(s:eY),(l.foldl (fun s t=>f t s) s).1=0→l.foldl (fun s t=>f t s) s=s∧∀ t∈l,Q t
 | [],s,h=>⟨rfl,fun t ht=>by cases ht⟩
 | x::l,s,h=>by
   rw [List.foldl_cons] at h ⊢
   obtain ⟨h1,h2⟩:=uA f Q hf l _ h
   rw [h1] at h ⊢
   obtain ⟨g1,g2⟩:=hf s x h
   refine ⟨g1,fun t ht=>?_⟩
   rcases List.mem_cons.1 ht with rfl | ht
   ·exact g2
   ·exact h2 t ht
theorem zi {l:List T} {s:eY} (h:(dY l s).1=0):dY l s=s:=(uA eF (fun _=>True) (fun s t h=>⟨(lU h).1,trivial⟩) l s h).1
theorem Jb {l:List T} {s:eY} (h:(lN l s).1=0):lN l s=s∧lM l=true:=by
 unfold lN at h ⊢
 split at h
 ·rename_i hn
  rw [if_pos hn]
  exact ⟨(lU h).1,hn⟩
 ·exact absurd h (xN (by decide) _ _)
theorem Oh {l:List T} {s:eY} (h:(mg l s).1=0):mg l s=s∧lM l=true:=by
 unfold mg at h ⊢
 split at h
 ·rename_i hn
  rw [if_pos hn]
  have h1:=(lU h).1
  rw [h1] at h ⊢
  exact Jb h
 ·rename_i hn
  rw [if_neg hn]
  exact Jb h
theorem Oi {t:T} {s:eY} (h:(rG t s).1=0):rG t s=s∧(aI (t.kids.getD 1 aH)).2.1=0:=by
 unfold rG at h ⊢
 obtain ⟨h1,h2⟩:=xO h
 rw [h1] at h ⊢
 exact ⟨(lU h).1,h2⟩
theorem Ci {kd:Int} {l:List T} {x:Int} {s:eY} (h:(dM kd l x s).1=0):dM kd l x s=s∧(kd=2→(aI (l.getD 1 aH)).2.1=0)∧(kd=3→∀ t∈bT l 1,(aI (t.kids.getD 1 aH)).2.1=0) ∧
 (kd=7→∀ t∈bT l 2,lM t.kids=true)∧(1≤kd∧kd≤7):=by
 unfold dM at h ⊢
 split at h
 ·rename_i e
  subst e
  exact ⟨(lU h).1,fun e=>by omega,fun e=>by omega,fun e=>by omega,by omega⟩
 ·split at h
  ·rename_i _ e
   subst e
   exact ⟨(xO h).1,fun _=>(xO h).2,fun e=>by omega,fun e=>by omega,by omega⟩
  ·split at h
   ·rename_i _ _ e
    subst e
    have:=uA rG (fun t=>(aI (t.kids.getD 1 aH)).2.1=0) (fun s t h=>Oi h) _ _ h
    exact ⟨this.1,fun e=>by omega,fun _=>this.2,fun e=>by omega,by omega⟩
   ·split at h
    ·rename_i _ _ _ e
     subst e
     have h1:=zi h
     rw [h1] at h ⊢
     exact ⟨zi h,fun e=>by omega,fun e=>by omega,fun e=>by omega,by omega⟩
    ·split at h
     ·rename_i _ _ _ _ e
      subst e
      exact ⟨rfl,fun e=>by omega,fun e=>by omega,fun e=>by omega,by omega⟩
     ·split at h
      ·rename_i _ _ _ _ _ e
       subst e
       exact ⟨rfl,fun e=>by omega,fun e=>by omega,fun e=>by omega,by omega⟩
      ·split at h
       ·rename_i _ _ _ _ _ _ e
        subst e
        have:=uA (fun t s=>mg t.kids s) (fun t=>lM t.kids=true) (fun s t h=>Oh h) _ _ h
        have h1:l7 (bT l 2) (dY (l.getD 1 aH).kids s)=dY (l.getD 1 aH).kids s:=this.1
        rw [h1] at h ⊢
        exact ⟨zi h,fun e=>by omega,fun e=>by omega,fun _=>this.2,by omega⟩
       ·exact absurd h (xN (by decide) _ _)
def fE (s:ByteArray):T:=.mk 2 s 0 [] 0
def kP (l:List T):T:=.mk 1 ⟨#[]⟩ 0 l 0
def dX (l:List ByteArray):T:=kP (l.map fE)
def nY (k:Int):List UInt8:=if k=1 then jU else if k=2 then iK else if k=3 then ig else if k=4 then nS else if k=5 then jJ else if k=6 then dW else kK
def vP (g:Ag):List ByteArray:=if g.fn.toList=dQ then [g.nm,g.fn] else [g.nm,g.fn,g.vw]
def Jc (c:ByteArray)(e:E):T:=kP [fE c,dm e]
def pK (cols:List ByteArray)(ex:List E):List T:=List.zipWith Jc cols ex
def jV (k:Int)(nm:ByteArray)(ex:List E)(cols left right:List ByteArray)(ag:List Ag):List T :=
 if k=1 then [fE nm] else if k=2 then ex.map dm else if k=3 then pK cols ex else if k=4 then [dX left,dX right] else if k=7 then dX left::ag.map (fun g=>dX (vP g)) else []
mutual
def aV:P→T
 | .mk k nm ex cols left right ag kids=>if k<1∨7<k then aH else kP (fE ⟨(nY k).toArray⟩::(jV k nm ex cols left right ag++iF kids))
def iF:List P→List T
 | []=>[]
 | x::l=>aV x::iF l
end
theorem qF (l:List P):iF l=l.map aV:=by
 induction l with
 | nil=>rw [iF];rfl
 | cons x l ih=>rw [iF,ih];rfl
inductive Ai:P→Prop
 | mk (k:Int)(nm:ByteArray)(ex:List E)(cols left right:List ByteArray)(ag:List Ag)(kids:List P)(h1:1≤k)(h7:k≤7)(hex:∀ e∈ex,nD e)(hc:cols.length≤ex.length)(hk:∀ p∈kids,Ai p):Ai (.mk k nm ex cols left right ag kids)
theorem xP (w:List UInt8)(l:List T):bY w l=0∨(bY w l=1∧w=jU∧l.length=2∧(l.getD 1 aH).k=2)∨(bY w l=2∧w=iK∧l.length=3)∨(bY w l=3∧w=ig∧3≤l.length∧(bT l 1).all aW=true) ∨
 (bY w l=4∧w=nS∧l.length=5∧eP (l.getD 1 aH)=true∧eP (l.getD 2 aH)=true)∨(bY w l=5∧w=jJ∧l.length=3)∨(bY w l=6∧w=dW∧l.length=2)∨(bY w l=7∧w=kK∧3≤l.length∧eP (l.getD 1 aH)=true∧(bT l 2).all ik=true):=by
 unfold bY
 generalize l.getD 1 aH=x1
 generalize l.getD 2 aH=x2
 repeat' split
 all_goals simp_all
theorem Fj (l:List T):vG l=l.map eU:=by
 induction l with
 | nil=>rw [vG];rfl
 | cons x l ih=>rw [vG,ih];rfl
theorem su {t:T} (h:t.k=2):eU t=fE t.s:=by
 obtain ⟨k,s,n,l,a⟩:=t
 simp only [T.k] at h
 unfold eU
 rw [if_pos h]
 rfl
theorem xQ {t:T} (h:t.k=1):eU t=kP (t.kids.map eU):=by
 obtain ⟨k,s,n,l,a⟩:=t
 simp only [T.k] at h
 subst h
 unfold eU
 rw [if_neg (by decide),if_neg (by decide),if_neg (by decide),Fj]
 rfl
theorem uB {t:T} (h:eP t=true):eU t=dX (t.kids.map T.s):=by
 unfold eP at h
 simp at h
 rw [xQ h.1,dX,List.map_map]
 congr 1
 refine List.map_congr_left fun x hx=>?_
 exact su (h.2 x hx)
theorem L6 {t:T} (h:aW t=true)(hr:(aI (t.kids.getD 1 aH)).2.1=0):eU t=Jc (t.kids.getD 0 aH).s (aI (t.kids.getD 1 aH)).1:=by
 unfold aW at h
 simp at h
 obtain ⟨h1,h2,h3⟩:=h
 rw [xQ h1,Jc,(rV _ hr).1]
 match hk:t.kids,h2 with
 | [x,y],_ =>
   rw [hk] at h3
   simp only [zY] at h3
   simp [su h3]
theorem Gz {t:T} (h:ik t=true):eP t=true∧(t.kids.length=2∨t.kids.length=3):=by
 unfold ik at h
 simp at h
 exact h
theorem Wj {t:T} (h:ik t=true)(hr:lM t.kids=true):eU t=dX (vP (kU t.kids)):=by
 obtain ⟨h1,h2⟩:=Gz h
 rw [uB h1]
 congr 1
 generalize t.kids=l at *
 unfold lM at hr
 rcases h2 with h2 | h2
 ·match l,h2 with
  | [x,y],_ =>
    rw [if_pos (show [x,y].length=2 from rfl)] at hr
    have e:y.s.toList=dQ:=by simpa using hr
    unfold vP kU
    simp [e]
 ·match l,h2 with
  | [x,y,z],_ =>
    rw [if_neg (by simp)] at hr
    have e:y.s.toList≠dQ:=by
     intro e
     simp at hr
     rw [e] at hr
     revert hr
     decide
    unfold vP kU
    simp [e]
def Jd (t:T):Prop:=∀ s:eY,(aX t s).2.1=0→(aX t s).2=s∧aV (aX t s).1=eU t∧Ai (aX t s).1
theorem lH:∀ (l:List T),(∀ t∈l,Jd t)→∀ s:eY,(bM l 0 s).2.1=0→(bM l 0 s).2=s∧iF (bM l 0 s).1=l.map eU∧∀ p∈(bM l 0 s).1,Ai p
 | [],_,s,h=>by
   rw [bM]
   exact ⟨rfl,by rw [iF];rfl,fun p hp=>by cases hp⟩
 | x::l,hx,s,h=>by
   rw [bM] at h ⊢
   simp only at h ⊢
   obtain ⟨h1,h2,h3⟩:=lH l (fun t ht=>hx t (List.mem_cons_of_mem _ ht)) _ h
   rw [h1] at h ⊢
   obtain ⟨g1,g2,g3⟩:=hx x List.mem_cons_self s h
   refine ⟨g1,by rw [iF,g2,h2];rfl,fun p hp=>?_⟩
   rcases List.mem_cons.1 hp with rfl | hp
   ·exact g3
   ·exact h3 p hp
theorem L8 (k:Int)(x:T)(l:List T):o8 k (x::l)=if k=1∧x.k=2 then x.s else ⟨#[]⟩:=rfl
theorem Fp {t:T} {w:List UInt8} (h:(iR t).toList=w)(hw:w≠[]):t.k=1∧∃ x l,t.kids=x::l∧eU x=fE ⟨w.toArray⟩:=by
 obtain ⟨k,s,n,l,a⟩:=t
 change (o8 k l).toList=w at h
 show k=1∧∃ x r,l=x::r∧_
 cases l with
 | nil=>exact absurd h.symm (by simpa [o8] using hw)
 | cons x l =>
   rw [L8] at h
   by_cases hx:k=1∧x.k=2
   ·rw [if_pos hx] at h
    refine ⟨hx.1,x,l,rfl,?_⟩
    rw [su hx.2]
    congr 1
    apply ByteArray.ext
    apply Array.ext'
    rw [←h]
    simp [ByteArray.toList_eq]
   ·rw [if_neg hx] at h
    exact absurd h.symm (by simpa using hw)
theorem gW:∀ t:T,Jd t:=T.ind fun k s n l a ih=>by
 intro st h
 rw [aX] at h ⊢
 simp only at h ⊢
 have hall:=xP (iR (.mk k s n l a)).toList l
 rw [show bY (iR (.mk k s n l a)).toList l=fA (.mk k s n l a) from rfl] at hall
 generalize fA (.mk k s n l a)=kd at *
 rw [jg] at h ⊢
 obtain ⟨h1,h2,h3⟩:=lH (l.drop (l.length-aJ kd)) (fun t ht=>ih t (List.mem_of_mem_drop ht)) _ h
 rw [h1] at h ⊢
 obtain ⟨b1,b2,b3,b4,b5,b6⟩:=Ci h
 rw [b1] at h2 h3 ⊢
 generalize (bM (l.drop (l.length-aJ kd)) 0 st).1=ks at *
 refine ⟨rfl,?_,?_⟩
 ·have key:∀ (w:List UInt8),(iR (.mk k s n l a)).toList=w→w=nY kd→w≠[]→∀ (nm:ByteArray)(ex:List E)(cols left right:List ByteArray)(ag:List Ag)(kk:List P),aT kd l=.mk kd nm ex cols left right ag kk →
   (∀ x r,l=x::r→jV kd nm ex cols left right ag=(r.take (l.length-aJ kd-1)).map eU)→aJ kd<l.length→aV ((aT kd l).put ks)=eU (.mk k s n l a):=by
   intro w hw1 hw2 hw0 nm ex cols left right ag kk hb hm hlt
   obtain ⟨hk1,x,r,hl,hx⟩:=Fp hw1 hw0
   simp only [T.k,T.kids] at hk1 hl
   rw [xQ (t:=.mk k s n l a) hk1,hb]
   simp only [P.put,P.k,P.nm,P.ex,P.cols,P.left,P.right,P.ag,T.kids]
   rw [aV,if_neg (by omega),hm x r hl,h2,←hw2,←hx]
   congr 1
   have e:l.length-aJ kd=(l.length-aJ kd-1)+1:=by omega
   rw [e,hl,List.drop_succ_cons,List.map_cons,←List.map_append]
   simp
  rcases hall with e | ⟨e,hw,hl,ha⟩ | ⟨e,hw,hl⟩ | ⟨e,hw,hl,ha⟩ | ⟨e,hw,hl,ha,hb⟩ | ⟨e,hw,hl⟩ | ⟨e,hw,hl⟩ | ⟨e,hw,hl,ha,hb⟩
  ·omega
  ·subst e
   refine key _ hw rfl (by decide) _ _ _ _ _ _ _ (by unfold aT;rw [if_pos rfl]) (fun x r hx=>?_) (by rw [show aJ 1=0 from rfl];omega)
   subst hx
   match r,hl with
   | [y],_ =>
     simp at ha
     simp [jV,aJ,su ha]
  ·subst e
   refine key _ hw rfl (by decide) _ _ _ _ _ _ _ (by unfold aT;rw [if_neg (by decide),if_pos rfl]) (fun x r hx=>?_) (by rw [show aJ 2=1 from rfl];omega)
   subst hx
   match r,hl with
   | [y,z],_ =>
     have:=(rV _ (b2 rfl)).1
     simp at this
     simp [jV,aJ,this]
  ·subst e
   refine key _ hw rfl (by decide) _ _ _ _ _ _ _ (by unfold aT;rw [if_neg (by decide),if_neg (by decide),if_pos rfl]) (fun x r hx=>?_) (by rw [show aJ 3=1 from rfl];omega)
   subst hx
   have hm:bT (x::r) 1=r.take ((x::r).length-aJ 3-1):=by
    unfold bT
    rw [List.drop_succ_cons,List.drop_zero]
    rfl
   rw [←hm]
   have b3':=b3 rfl
   generalize bT (x::r) 1=ml at *
   unfold jV pK
   rw [if_neg (by decide),if_neg (by decide),if_pos rfl,List.zipWith_map,List.zipWith_self]
   refine List.map_congr_left fun c hc=>?_
   exact (L6 (List.all_eq_true.1 ha c hc) (b3' c hc)).symm
  ·subst e
   refine key _ hw rfl (by decide) _ _ _ _ _ _ _ (by unfold aT;rw [if_neg (by decide),if_neg (by decide),if_neg (by decide),if_pos rfl]) (fun x r hx=>?_) (by rw [show aJ 4=2 from rfl];omega)
   subst hx
   match r,hl with
   | [y1,y2,y3,y4],_ =>
     simp at ha hb
     simp [jV,aJ,uB ha,uB hb]
  ·subst e
   refine key _ hw rfl (by decide) _ _ _ _ _ _ _ (by unfold aT;rw [if_neg (by decide),if_neg (by decide),if_neg (by decide),if_neg (by decide),if_neg (by decide)]) (fun x r hx=>?_) (by rw [show aJ 5=2 from rfl];omega)
   subst hx
   match r,hl with
   | [y1,y2],_=>simp [jV,aJ]
  ·subst e
   refine key _ hw rfl (by decide) _ _ _ _ _ _ _ (by unfold aT;rw [if_neg (by decide),if_neg (by decide),if_neg (by decide),if_neg (by decide),if_neg (by decide)]) (fun x r hx=>?_) (by rw [show aJ 6=1 from rfl];omega)
   subst hx
   match r,hl with
   | [y1],_=>simp [jV,aJ]
  ·subst e
   refine key _ hw rfl (by decide) _ _ _ _ _ _ _ (by unfold aT;rw [if_neg (by decide),if_neg (by decide),if_neg (by decide),if_neg (by decide),if_pos rfl]) (fun x r hx=>?_) (by rw [show aJ 7=1 from rfl];omega)
   subst hx
   match r,hl with
   | y::r,hl =>
     have hm:bT (x::y::r) 2=r.take ((x::y::r).length-aJ 7-1-1):=by
      unfold bT
      rw [List.drop_succ_cons,List.drop_succ_cons,List.drop_zero]
      rfl
     have b4':=b4 rfl
     rw [hm] at b4' hb
     have e2:(x::y::r).length-aJ 7-1=((x::y::r).length-aJ 7-1-1)+1:=by
      rw [show aJ 7=1 from rfl]
      simp only [List.length_cons] at hl ⊢
      omega
     rw [hm,e2,List.take_succ_cons,List.map_cons]
     simp at ha
     unfold jV
     rw [if_neg (by decide),if_neg (by decide),if_neg (by decide),if_neg (by decide),if_pos rfl,List.map_map]
     rw [show (List.getD (x::y::r) 1 aH)=y from rfl,uB ha,Nat.add_sub_cancel]
     congr 1
     refine List.map_congr_left fun c hc=>?_
     exact (Wj (List.all_eq_true.1 hb c hc) (b4' c hc)).symm
 ·rcases hall with e | ⟨e,hw,hl,ha⟩ | ⟨e,hw,hl⟩ | ⟨e,hw,hl,ha⟩ | ⟨e,hw,hl,ha,hb⟩ | ⟨e,hw,hl⟩ | ⟨e,hw,hl⟩ | ⟨e,hw,hl,ha,hb⟩
  ·omega
  ·subst e
   exact .mk _ _ _ _ _ _ _ _ (by simp [aT,P.k]) (by simp [aT,P.k]) (fun e he=>by simp [aT,P.ex] at he) (by simp [aT,P.cols,P.ex]) h3
  ·subst e
   refine .mk _ _ _ _ _ _ _ _ (by simp [aT,P.k]) (by simp [aT,P.k]) (fun e he=>?_) (by simp [aT,P.cols,P.ex]) h3
   simp [aT,P.ex] at he
   rw [he]
   simpa using (rV _ (b2 rfl)).2.2
  ·subst e
   refine .mk _ _ _ _ _ _ _ _ (by simp [aT,P.k]) (by simp [aT,P.k]) (fun e he=>?_) (by simp [aT,P.cols,P.ex]) h3
   have he':e∈(bT l 1).map fun c=>(aI (c.kids.getD 1 aH)).1:=he
   obtain ⟨c,hc,rfl⟩:=List.mem_map.1 he'
   exact (rV _ (b3 rfl c hc)).2.2
  ·subst e
   exact .mk _ _ _ _ _ _ _ _ (by simp [aT,P.k]) (by simp [aT,P.k]) (fun e he=>by simp [aT,P.ex] at he) (by simp [aT,P.cols,P.ex]) h3
  ·subst e
   exact .mk _ _ _ _ _ _ _ _ (by simp [aT,P.k]) (by simp [aT,P.k]) (fun e he=>by simp [aT,P.ex] at he) (by simp [aT,P.cols,P.ex]) h3
  ·subst e
   exact .mk _ _ _ _ _ _ _ _ (by simp [aT,P.k]) (by simp [aT,P.k]) (fun e he=>by simp [aT,P.ex] at he) (by simp [aT,P.cols,P.ex]) h3
  ·subst e
   exact .mk _ _ _ _ _ _ _ _ (by simp [aT,P.k]) (by simp [aT,P.k]) (fun e he=>by simp [aT,P.ex] at he) (by simp [aT,P.cols,P.ex]) h3
theorem L9 {t t':T} {s s':eY} (h:(aX t s).2.1=0)(he:era t'=era t)(hs:s'.1=0):aX t' s'=((aX t s).1,s'):=by
 have h0:s.1=0:=by rw [←(gW t s h).1];exact h
 have g:=Fh t s' s (hs.trans h0.symm)
 have g':=Fh t' s' s' rfl
 rw [he] at g'
 have e1:(aX t' s').1=(aX t s).1:=g'.1.symm.trans g.1
 have e2:(aX t' s').2.1=0:=g'.2.symm.trans (g.2.trans h)
 have e3:=(gW t' s' e2).1
 exact Prod.ext e1 e3
structure Rq (w0:World)(tb B:Nat)(v:Value)(ps:List TP)(wr:World):Prop where
 box:wr.heap[tb]?=some (.cells #[.int .i64 1,.string ⟨#[]⟩,.int .i64 0,v,.int .i64 0] 71 (0,0))
 own:wr.ownsRow B 71 5 v ps.length (aO ps)
 kids:∀ p∈ps,p.1.kids.length≤p.2.2∧ku wr (fun k=>B≤k∧k<wr.heap.size∧v.ownBlock≠some k∧k≠tb) p.2.1 p.1.kids
 AP:v.ownBlock≠some tb
 below:Below w0.heap.size w0 wr
 tb0:w0.heap.size≤tb
 B0:w0.heap.size≤B
theorem Rq.lt {w0 wr:World} {tb B:Nat} {v:Value} {ps:List TP} (h:Rq w0 tb B v ps wr):tb<wr.heap.size:=(Array.getElem?_eq_some_iff.1 h.box).1
theorem Rq.bel {w0 wr w':World} {tb B:Nat} {v:Value} {ps:List TP} (h:Rq w0 tb B v ps wr)(hb:Below wr.heap.size wr w'):Rq w0 tb B v ps w':=by
 have hs:=hb.size
 have h0:=h.below.size
 exact ⟨(hb.block tb h.lt).trans h.box,own_below h.own hb,fun p hp=>⟨(h.kids p hp).1,((h.kids p hp).2.kept fun k hk=>hb.block k hk.2.1).mono fun k hk=>⟨hk.1,by have:=hk.2.1;omega,hk.2.2⟩⟩,h.AP,h.below.trans (hb.mono h0),h.tb0,h.B0⟩
theorem Rq.step {w0 w3 w5:World} {tb B g' cap sz:Nat} {v:Value} {ps xs:List TP} (h:Rq w0 tb B v ps w3)(hg5:w3.grownBy w5 v.ownBlock)
 (dP:w5.ownsRow B 71 5 (.slice (some ⟨g',0,none⟩) (ps.length+xs.length) cap) (ps.length+xs.length) (aO ps++aO xs))
 (hat:(Value.slice (some ⟨g',0,none⟩) (ps.length+xs.length) cap).ownBlock=v.ownBlock∨∃ n,(Value.slice (some ⟨g',0,none⟩) (ps.length+xs.length) cap).ownBlock=some n∧w3.heap.size≤n)
 (hx:∀ p∈xs,p.1.kids.length≤p.2.2∧ku w3 (fun k=>sz≤k∧k<w3.heap.size) p.2.1 p.1.kids)(hsz:B≤sz)(htb:tb<sz)(hv:∀ k,v.ownBlock=some k→k<sz) :
 Rq w0 tb B (.slice (some ⟨g',0,none⟩) (ps.length+xs.length) cap) (ps++xs) (w5.setCell ⟨tb,3,none⟩ (.slice (some ⟨g',0,none⟩) (ps.length+xs.length) cap)):=by
 have hs5:=hg5.size
 have hlt:=h.lt
 have h2:∀ k,v.ownBlock=some k→B≤k∧k<w3.heap.size:=fun k e=>h.own.lt k e
 have hne:g'≠tb:=fun e=>by
  rcases hat with h' | ⟨n,h',hn⟩
  ·exact h.AP (by rw [←h',←e];rfl)
  ·have:n=g':=by simpa [Value.ownBlock] using h'.symm
   omega
 have hoth:∀ k,k≠tb→k<w3.heap.size→v.ownBlock≠some k→(w5.setCell ⟨tb,3,none⟩ (.slice (some ⟨g',0,none⟩) (ps.length+xs.length) cap)).heap[k]?=w3.heap[k]?:=fun k a1 a2 a3 =>
  (ann w5 ⟨tb,3,none⟩ _ k a1).trans (hg5.block k a2 fun e=>a3 e.symm)
 have hz:(w5.setCell ⟨tb,3,none⟩ (.slice (some ⟨g',0,none⟩) (ps.length+xs.length) cap)).heap.size=w5.heap.size:=by simp [World.setCell]
 have hvv:∀ k,k<w3.heap.size→v.ownBlock≠some k→(Value.slice (some ⟨g',0,none⟩) (ps.length+xs.length) cap).ownBlock≠some k:=fun k a1 a2=>by
  rcases hat with h | ⟨n,h,hn⟩
  ·rw [h];exact a2
  ·rw [h];intro e;have:=Option.some.inj e;omega
 refine ⟨kV (k:=3) ((hg5.block tb hlt fun e=>h.AP e.symm).trans h.box),?_,?_,by simpa [Value.ownBlock] using hne,?_,h.tb0,h.B0⟩
 ·rw [List.length_append,fZ]
  exact kN dP (ann w5 ⟨tb,3,none⟩ _ g' hne)
 ·intro p hp
  rcases List.mem_append.1 hp with hp | hp
  ·obtain ⟨k1,k2⟩:=h.kids p hp
   exact ⟨k1,(k2.kept fun k hk=>hoth k hk.2.2.2 hk.2.1 hk.2.2.1).mono fun k hk=>⟨hk.1,by have:=hk.2.1;omega,hvv k hk.2.1 hk.2.2.1,hk.2.2.2⟩⟩
  ·obtain ⟨k1,k2⟩:=hx p hp
   have a2:∀ k,sz≤k→v.ownBlock≠some k:=fun k hk e=>by have:=hv k e;omega
   exact ⟨k1,(k2.kept fun k hk=>hoth k (by have:=hk.1;omega) hk.2 (a2 k hk.1)).mono fun k hk=>⟨by have:=hk.1;omega,by have:=hk.2;omega,hvv k hk.2 (a2 k hk.1),by have:=hk.1;omega⟩⟩
 ·have hb0:=h.B0
  have ht0:=h.tb0
  exact (h.below.grown hg5 h.below.size (fun k e=>by have:=(h2 k e).1;omega)).setCell (p:=⟨tb,3,none⟩) ht0 _
def VE (w0:World)(tb B:Nat)(L:List T)(wr:World):Prop:=∃ (v:Value)(ps:List TP),Rq w0 tb B v ps wr∧ps.map Prod.fst=L
theorem Je (s:ByteArray)(w:World):Calls Tryz.prog 66 #[.string s] w fun e w'=>e=.returned (.agg #[.int .i64 2,.string s,.int .i64 0,.slice none 0 0,.int .i64 0])∧Below w.heap.size w w':=by
 go_enter Tryz.func66,Tryz.ntmps66
 go_wp2_with fail
 refine ano (gm rfl rfl (anm w _)) rfl ?_
 exact ⟨rfl,(anl _ _).alloc (ank _) _⟩
theorem open_any (A:Option Addr)(n c:Nat)(w:World):Calls Tryz.prog 65 #[.slice A n c] w fun e w'=>e=.returned (.agg #[.int .i64 1,.string ⟨#[]⟩,.int .i64 0,.slice A n c,.int .i64 0])∧Below w.heap.size w w':=by
 go_enter Tryz.func65,Tryz.ntmps65
 go_wp2_with fail
 refine ano (gm rfl rfl (anm w _)) rfl ?_
 exact ⟨rfl,(anl _ _).alloc (ank _) _⟩
theorem P5 {w0 w2:World} (hb:Below w0.heap.size w0 w2):Rq w0 w2.heap.size w2.heap.size (.slice none 0 0) [] (w2.alloc (.cells #[.int .i64 1,.string ⟨#[]⟩,.int .i64 0,.slice none 0 0,.int .i64 0] 71)) :=
 ⟨anm w2 _,⟨rfl,.inl ⟨rfl,rfl⟩⟩,fun p hp=>(by cases hp),(by simp [Value.ownBlock]),hb.alloc hb.size _,hb.size,hb.size⟩
theorem Lies.at_ {w:World} {S:Nat→Prop} {A:Option Addr} {l:List ByteArray} (h:Lies w S A (strs l)) {j:Nat} {x:ByteArray} (hx:l[j]?=some x):∃ b o,A=some ⟨b,o,none⟩∧S b∧w.cell? ⟨b,o+j,none⟩=some (.string x):=by
 rcases h with h | ⟨b,o,hA,hb,hc⟩
 ·have:l=[]:=by simpa [strs] using h
  subst this
  simp at hx
 ·exact ⟨b,o,hA,hb,hc j _ (by rw [strs,List.getElem?_map,hx];rfl)⟩
theorem get_some {α:Type} {l:List α} {j n:Nat} (h:n=l.length)(hj:j<n):∃ x,l[j]?=some x:=⟨_,anr (by omega)⟩
theorem take_snoc {α:Type} {l:List α} {j:Nat} {x:α} (h:l[j]?=some x):l.take (j+1)=l.take j++[x]:=by rw [List.take_add_one,h];rfl
theorem Oj {w0 wr:World} {tb B:Nat} {v:Value} {ps:List TP} (h:Rq w0 tb B v ps wr)(hl:ps.length≤9223372036854775807):∃ A c,v=.slice A (ps.map Prod.fst).length c∧(ps.map Prod.fst).length≤c∧ku wr (fun k=>w0.heap.size≤k∧k<wr.heap.size) A (ps.map Prod.fst):=by
 have h0:=h.B0
 exact oV h.own hl (fun k k1 k2=>⟨by omega,k2⟩) (fun p hp=>⟨(h.kids p hp).1,(h.kids p hp).2.mono fun k hk=>⟨by have:=hk.1;omega,hk.2.1⟩⟩)
theorem zo {j n:Nat} (h:j<n):n-(intOf (Value.int .i64 ((j:Int)+1))).toNat<n-(intOf (Value.int .i64 (j:Int))).toNat:=by
 simp [intOf];omega
def mr (w:World)(t:T)(e:Ending)(w':World):Prop:=(∃ A c,e=.returned (t.val A c)∧t.kids.length≤c∧ku w' (fun k=>w.heap.size≤k∧k<w'.heap.size) A t.kids)∧Below w.heap.size w w'
theorem Jf {w w1 wr:World} {A:Option Addr} {c p:Nat} {L:List T} {x0 x1 x2 x3 x4:Value} (h1:w.heap.size<w1.heap.size)(hb:Below w.heap.size w w1)(hr:Below w1.heap.size w1 wr)(hc:L.length≤c)(hX:ku wr (fun k=>w1.heap.size≤k∧k<wr.heap.size) A L)(hp:p=w.heap.size)
 (hx:x0=.int .i64 1∧x1=.string ⟨#[]⟩∧x2=.int .i64 0∧x3=.slice A L.length c∧x4=.int .i64 0):mr w (kP L) (.returned (.agg #[x0,x1,x2,x3,x4])) (Iz wr p x0 x1 x2 x3 x4):=by
 obtain ⟨rfl,rfl,rfl,rfl,rfl⟩:=hx
 subst hp
 refine ⟨⟨A,c,rfl,hc,?_⟩,aC (hb.trans (hr.mono (Nat.le_of_lt h1))) (ank _)⟩
 exact (hX.kept (fun k hk=>kZ (by have:=hk.1;omega))).mono (fun k hk=>⟨by have:=hk.1;omega,by rw [oW];exact hk.2⟩)
theorem Tu (l:List ByteArray)(hl:l.length≤600)(A:Option Addr)(c:Nat)(w:World)(hL:Lies w (fun k=>k<w.heap.size) A (strs l)) :
 Calls Tryz.prog 68 #[.slice A l.length c] w (mr w (dX l)):=by
 obtain ⟨ln,oL⟩:∃ ln,ln=l.length:=⟨_,rfl⟩
 obtain ⟨w1,aK⟩:∃ w1,w1=w.alloc (.cells #[.int .i64 0,.string ⟨#[]⟩,.int .i64 0,.slice none 0 0,.int .i64 0] 71):=⟨_,rfl⟩
 have hb1:Below w.heap.size w w1:=by rw [aK];exact (anl _ _).alloc (ank _) _
 have hs1:w.heap.size<w1.heap.size:=by rw [aK];simp
 have hr1:w1.heap[w.heap.size]?=some (.cells #[.int .i64 0,.string ⟨#[]⟩,.int .i64 0,.slice none 0 0,.int .i64 0] 71 (0,0)):=by rw [aK];exact anm w _
 have jh:=anc oL
 have HL:=anc hL
 have HB1:=anc hb1
 have HR1:=anc hr1
 have HW1:=anc aK
 have hop:=anc (open_any none 0 0 w1)
 obtain ⟨i0,hi,hz0,hz1,hz2⟩:=info_parts mV
 rw [←oL] at hl ⊢
 clear oL hL aK hb1 hr1
 go_enter Tryz.func68,Tryz.ntmps68
 go_upto_region 1 with (fail)
 rw [←HW1.out]
 go_wp2_with fail
 refine (hop.out).mono ?_
 rintro e w2 ⟨rfl,hb2⟩
 have HB2:=anc hb2
 have HS:=anc (P5 hb2)
 clear hb2
 go_wp2_with fail
 go_loopw [9] (fun i wr=>∃ j:Nat,j≤ln∧i=.int .i64 j∧VE w1 w2.heap.size w2.heap.size ((l.take j).map fE) wr) (fun i _=>ln-(intOf i).toNat)
 case atStart=>exact ⟨0,Nat.zero_le _,rfl,_,[],HS.out,by simp⟩
 case round =>
  obtain ⟨j,hj,rfl,v,ps,hK,hps⟩:=hrel
  have HK:=anc hK
  have rq:=anc hps
  have hpl:=anc (show ps.length=j by have:=congrArg List.length hps;rw [List.length_map,List.length_map,List.length_take,←jh.out] at this;omega)
  clear hK hps
  by_cases hlt:j<ln
  ·obtain ⟨x,hx⟩:=get_some jh.out hlt
   obtain ⟨b,o,rfl,hb,hcell⟩:=HL.out.at_ hx
   have hcx:wr.cell? ⟨b,o+j,none⟩=some (.string x):=((HB1.out.trans (HK.out.below.mono (Nat.le_of_lt hs1))).cell hb).trans hcell
   have HA:=anc (Je x wr.drew)
   have htk:=anc (take_snoc hx)
   have KJ:j≤600:=anv hj hl
   have Jg:=anc (fun k (e:v.ownBlock=some k)=>(HK.out.own.lt k e).2)
   have g0:=(ay HK.out.box).1.2.2.2.1
   clear hcell hx
   go_upto_region 5 with (fail)
   go_region_law (first
    | (refine step_append_lies _ rfl _ _ _ rfl w2.heap.size 71 i0 _ 5 64 Tryz.underlying69 hi hz0 hz1 hz2 rfl (by decide) _ _ _ rfl (P6.out.own.alloc _) ⟨w3.heap.size,0,none⟩ 1 1 (TP.cs ((.mk 2 x 0 [] 0:T),none,0)) rfl rfl (World.news_of_block (anm w3 _)) (by rw [←bD];exact bG _) (by decide) (lJ hpl.out KJ) (jP hpl.out KJ (by decide)) hsz3.out _ rfl ?_;intro g' cap w5 hown5 hgrow hat yU
       have fV:=anc hown5
       have qx:Hid (w3.grownBy w5 v.ownBlock):=anc ((World.grownBy_alloc _ _ _).trans hgrow)
       have gY:Hid ((Value.slice (some ⟨g',0,none⟩) (ps.length+1) cap).ownBlock=v.ownBlock∨∃ n,(Value.slice (some ⟨g',0,none⟩) (ps.length+1) cap).ownBlock=some n∧w3.heap.size≤n):=anc (hat.imp (fun h=>h.symm) fun h=>⟨g',rfl,by rw [h];exact (aG w3 _ _).size⟩)
       have Lj:=anc ((qx.out.block w2.heap.size P6.out.lt (fun e=>P6.out.AP e.symm)).trans P6.out.box)
       obtain ⟨⟨p0,p1,p2,p3,p4⟩,q0,q1,q2,q3,q4⟩:=ay Lj.out
       clear hown5 hgrow hat)
    | (go_simp;go_at_call 66;refine (HA.out).mono ?_;rintro e w3 ⟨rfl,hb3⟩
       have P6:=anc (HK.out.bel (((anl _ _).drew).trans hb3))
       have hsz3:Hid (w2.heap.size≤(w3.alloc (.cells #[.int .i64 2,.string x,.int .i64 0,.slice none 0 0,.int .i64 0] 71)).heap.size):=anc (anv (Nat.le_of_lt P6.out.lt) (aG w3 _ _).size)
       have g3:w3.cell? ⟨w2.heap.size,3,none⟩=some v:=(ay P6.out.box).1.2.2.2.1
       have Ro:(w3.alloc (.cells #[.int .i64 2,.string x,.int .i64 0,.slice none 0 0,.int .i64 0] 71)).cell? ⟨w2.heap.size,3,none⟩=some v:=(World.cell?_alloc_some _ _ _ (by rw [g3];rfl)).trans g3
       have hs3:=anc hb3.size
       clear hb3))
   all_goals
    go_wp2_with fail
    go_roundw
    case measure=>exact zo hlt
    case rel =>
     refine ⟨j+1,hlt,by simp,_,ps++[((.mk 2 x 0 [] 0:T),none,0)],P6.out.step (xs:=[((.mk 2 x 0 [] 0:T),none,0)]) (sz:=wr.heap.size) qx.out (by rw [bD];exact fV.out) gY.out (pG x _ _) (Nat.le_of_lt HK.out.lt) HK.out.lt Jg.out,?_⟩
     rw [List.map_append,rq.out,htk.out,List.map_append]
     rfl
  ·have he:Hid (ps.map Prod.fst=l.map fE):=anc (by rw [rq.out,List.take_of_length_le (by have:=jh.out;omega)])
   obtain ⟨A9,c9,rfl,Gp,wG⟩:=Oj HK.out (by have:=hpl.out;omega)
   rw [he.out] at Gp wG
   have Zf:=anc HK.out.box
   rw [he.out] at Zf
   have EE:=anc wG
   have ET:=anc ((HK.out.below.block _ hs1).trans HR1.out)
   have dC:=anc HK.out.below
   obtain ⟨⟨k0,k1,k2,k3,k4⟩,f0,f1,f2,f3,f4⟩:=ay Zf.out
   obtain ⟨⟨q0,q1,q2,q3,q4⟩,e0,e1,e2,e3,e4⟩:=ay ET.out
   clear HK wG hpl
   go_wp2_with fail
   refine ano (gm rfl rfl (aB ET.out)) rfl ?_
   exact Jf hs1 HB1.out dC.out Gp EE.out rfl ⟨rfl,rfl,rfl,by rw [List.length_map],rfl⟩
end Go.Proofs.YtjhkihkiebnpaaaGreatDoor
namespace Go.Proofs.YtjhkihkiebnpaaaGreatDoor
namespace aj
section
variable {P:Program} {ops:Array Oper} {Q:Exit→Act→World→Prop} {md:Region.Mode} {S:World→Prop} {Ks:List Nat}
def dS (P:Program)(md:Region.Mode)(ops:Array Oper)(Q:Exit→Act→World→Prop)(S:World→Prop)(Ks:List Nat):Nat→Array Bool→Act→World→Prop
 | 0,listed,a,w=>Region.ready md ops listed=[]∧Q .normal a w
 | fuel+1,listed,a,w =>
   (Region.ready md ops listed=[]→Q .normal a w) ∧
   ∀ i∈Region.ready md ops listed,wpOp P ops Q i (fun a' w'=>(i ∉ Ks→S w')∧dS P md ops Q S Ks fuel (listed.setIfInBounds i true) a' w') a w
theorem jR:∀ (fuel:Nat)(listed:Array Bool)(a:Act)(w:World),dS P md ops Q S Ks fuel listed a w→wpAny P md ops Q fuel listed a w
 | 0,_,_,_,h=>h
 | fuel+1,_,_,_,h=>⟨h.1,fun i hi=>wpOp_mono (fun a' w' h'=>jR fuel _ a' w' h'.2) (h.2 i hi)⟩
theorem qG {i:Nat} {oi:Oper} {v:Value} {C:List Nat} (hi:ops[i]?=some oi)(hsel:∀ (j:Nat)(o:Oper) cs b,ops[j]?=some o→o.op≠.select cs b)
 (hQ:∀ c a w,Q (.panic c) (a.put oi.dst v) w→Q (.panic c) a w)(hkC:∀ k∈Ks,k∈C)
 (hC:∀ c∈C,c≠i→∀ o,ops[c]?=some o→∃ e∈o.after,Region.binds md e=true∧e.on∈C) :
 ∀ (fuel:Nat)(listed:Array Bool)(a:Act)(w:World),
   (∀ j oj,ops[j]?=some oj→j≠i→listed.getD j true=false→(∀ e∈oj.after,Region.binds md e=true→e.on≠i)→oi.apart ops oj=true) →
   (∀ c∈C,listed.getD c true=false) →
   i∈Region.ready md ops listed→YieldsIf P ops S oi v a→S w →
   dS P md ops Q S Ks fuel (listed.setIfInBounds i true) (a.put oi.dst v) w→dS P md ops Q S Ks (fuel+1) listed a w:=by
 intro fuel
 induction fuel with
 | zero =>
   intro listed a w _ _ hr hy hS H
   refine ⟨fun h=>(by rw [h] at hr;cases hr),fun j hj=>?_⟩
   by_cases hji:j=i
   ·subst hji;exact hy.wpOp hi hS ⟨fun _=>hS,H⟩
   ·have:=ready_mono hj hji
    rw [H.1] at this
    cases this
 | succ fuel ih =>
   intro listed a w hfree hun hr hy hS H
   refine ⟨fun h=>(by rw [h] at hr;cases hr),fun j hj=>?_⟩
   by_cases hji:j=i
   ·subst hji;exact hy.wpOp hi hS ⟨fun _=>hS,H⟩
   ·have h1:=H.2 j (ready_mono hj hji)
    obtain ⟨hjun,oj,hoj,hall⟩:=mem_ready.1 hj
    have hjC:j ∉ C:=fun hm=>by
     obtain ⟨e,he,hb,heC⟩:=hC j hm hji oj hoj
     have t1:=hall e he hb
     have t2:=hun e.on heC
     rcases Nat.lt_or_ge e.on listed.size with h' | h'
     ·simp [h'] at t1 t2;rw [t1] at t2;cases t2
     ·simp [Array.getElem?_eq_none h'] at t1
    have hjk:j ∉ Ks:=fun e=>hjC (hkC j e)
    have hnot:∀ e∈oj.after,Region.binds md e=true→e.on≠i:=fun e he hb heq=>by
     have h1:=hall e he hb
     have h0:=(mem_ready.1 hr).1
     rw [heq] at h1
     rcases Nat.lt_or_ge i listed.size with h' | h'
     ·simp [h'] at h0 h1;rw [h0] at h1;cases h1
     ·simp [Array.getElem?_eq_none h'] at h1
    have h2:=wpOp_putIf hoj (hfree j oj hoj hji hjun hnot) (fun cs b=>hsel i oi cs b hi) (fun cs b=>hsel j oj cs b hoj) hQ hy h1
    have hfree':∀ k ok,ops[k]?=some ok→k≠i→(listed.setIfInBounds j true).getD k true=false →
     (∀ e∈ok.after,Region.binds md e=true→e.on≠i)→oi.apart ops ok=true:=fun k ok hk hki hun hno=>by
     refine hfree k ok hk hki ?_ hno
     by_cases hjk:j=k
     ·subst hjk;exact hjun
     ·rw [getD_set_ne true hjk] at hun;exact hun
    have hun':∀ c∈C,(listed.setIfInBounds j true).getD c true=false:=fun c hc=>by
     have hne:j≠c:=fun e=>hjC (by rw [e];exact hc)
     rw [getD_set_ne true hne];exact hun c hc
    refine wpOp_mono (fun a' w' h3=>⟨h3.2.1,ih (listed.setIfInBounds j true) a' w' hfree' hun' (ready_mono hr (Ne.symm hji)) h3.1 (h3.2.1 hjk) ?_⟩) h2
    rw [Array.setIfInBounds_comm _ _ hji]
    exact h3.2.2
def xR (md:Region.Mode)(ops:Array Oper)(listed:Array Bool)(C:List Nat)(i:Nat)(Ks:List Nat):Bool :=
 (Ks.all fun k=>C.contains k)&&C.all fun c=>(!(listed.getD c true))&&(Nat.beq c i || match ops[c]? with
   | some o=>o.after.any fun e=>Region.binds md e&&C.contains e.on
   | none=>true)
theorem ae {i:Nat} {oi:Oper} {v:Value} {C:List Nat} {fuel:Nat} {listed:Array Bool} {a:Act} {w:World} (hi:ops[i]?=some oi)
 (hs:Region.noSelect ops=true)(hf:Region.free md ops listed i=true)(hr:(Region.ready md ops listed).contains i=true)(hc:xR md ops listed C i Ks=true)
 (hQ:∀ c a w,Q (.panic c) (a.put oi.dst v) w→Q (.panic c) a w)(hy:YieldsIf P ops S oi v a)(hS:S w)
 (h:dS P md ops Q S Ks fuel (listed.setIfInBounds i true) (a.put oi.dst v) w):dS P md ops Q S Ks (fuel+1) listed a w:=by
 unfold xR at hc
 simp only [Bool.and_eq_true,List.all_eq_true,Bool.or_eq_true,Nat.beq_eq] at hc
 obtain ⟨hk,hc⟩:=hc
 refine qG hi (Region.noSelect_spec hs) hQ (by simpa using hk) (fun c hm hne o ho=>?_) fuel listed a w (Region.free_spec hi hf) (fun c hm=>by have:=(hc c hm).1;simpa using this) (by simpa using hr) hy hS h
 rcases (hc c hm).2 with h' | h'
 ·exact absurd h' hne
 ·rw [ho] at h'
  simp only [Array.any_eq_true,Bool.and_eq_true] at h'
  obtain ⟨n,hn,hb,hcn⟩:=h'
  exact ⟨o.after[n],Array.getElem_mem hn,hb,by simpa using hcn⟩
theorem Ed {i:Nat} {oi:Oper} {v:Value} (hiK:i∈Ks)(hi:ops[i]?=some oi)(hsel:∀ (j:Nat)(o:Oper) cs b,ops[j]?=some o→o.op≠.select cs b)
 (hQ:∀ c a w,Q (.panic c) (a.put oi.dst v) w→Q (.panic c) a w) :
 ∀ (fuel:Nat)(listed:Array Bool)(a:Act)(w:World),
   (∀ j oj,ops[j]?=some oj→j≠i→listed.getD j true=false→(∀ e∈oj.after,Region.binds md e=true→e.on≠i)→oi.apart ops oj=true) →
   i∈Region.ready md ops listed→YieldsIf P ops (fun _=>True) oi v a →
   dS P md ops Q S Ks fuel (listed.setIfInBounds i true) (a.put oi.dst v) w→dS P md ops Q S Ks (fuel+1) listed a w:=by
 intro fuel
 induction fuel with
 | zero =>
   intro listed a w _ hr hy H
   refine ⟨fun h=>(by rw [h] at hr;cases hr),fun j hj=>?_⟩
   by_cases hji:j=i
   ·subst hji;exact hy.wpOp hi trivial ⟨fun e=>absurd hiK e,H⟩
   ·have:=ready_mono hj hji
    rw [H.1] at this
    cases this
 | succ fuel ih =>
   intro listed a w hfree hr hy H
   refine ⟨fun h=>(by rw [h] at hr;cases hr),fun j hj=>?_⟩
   by_cases hji:j=i
   ·subst hji;exact hy.wpOp hi trivial ⟨fun e=>absurd hiK e,H⟩
   ·have h1:=H.2 j (ready_mono hj hji)
    obtain ⟨hjun,oj,hoj,hall⟩:=mem_ready.1 hj
    have hnot:∀ e∈oj.after,Region.binds md e=true→e.on≠i:=fun e he hb heq=>by
     have h1:=hall e he hb
     have h0:=(mem_ready.1 hr).1
     rw [heq] at h1
     rcases Nat.lt_or_ge i listed.size with h' | h'
     ·simp [h'] at h0 h1;rw [h0] at h1;cases h1
     ·simp [Array.getElem?_eq_none h'] at h1
    have h2:=wpOp_putIf hoj (hfree j oj hoj hji hjun hnot) (fun cs b=>hsel i oi cs b hi) (fun cs b=>hsel j oj cs b hoj) hQ hy h1
    have hfree':∀ k ok,ops[k]?=some ok→k≠i→(listed.setIfInBounds j true).getD k true=false →
     (∀ e∈ok.after,Region.binds md e=true→e.on≠i)→oi.apart ops ok=true:=fun k ok hk hki hun hno=>by
     refine hfree k ok hk hki ?_ hno
     by_cases hjk:j=k
     ·subst hjk;exact hjun
     ·rw [getD_set_ne true hjk] at hun;exact hun
    refine wpOp_mono (fun a' w' h3=>⟨h3.2.1,ih (listed.setIfInBounds j true) a' w' hfree' (ready_mono hr (Ne.symm hji)) h3.1 ?_⟩) h2
    rw [Array.setIfInBounds_comm _ _ hji]
    exact h3.2.2
theorem jA {i:Nat} {oi:Oper} {v:Value} {fuel:Nat} {listed:Array Bool} {a:Act} {w:World} (hiK:i∈Ks)(hi:ops[i]?=some oi)
 (hs:Region.noSelect ops=true)(hf:Region.free md ops listed i=true)(hr:(Region.ready md ops listed).contains i=true)
 (hQ:∀ c a w,Q (.panic c) (a.put oi.dst v) w→Q (.panic c) a w)(hy:YieldsIf P ops (fun _=>True) oi v a)
 (h:dS P md ops Q S Ks fuel (listed.setIfInBounds i true) (a.put oi.dst v) w):dS P md ops Q S Ks (fuel+1) listed a w :=
 Ed hiK hi (Region.noSelect_spec hs) hQ fuel listed a w (Region.free_spec hi hf) (by simpa using hr) hy h
def ah (P:Program)(md:Region.Mode)(ops:Array Oper)(Q:Exit→Act→World→Prop)(S:World→Prop)(Ks:List Nat)(fuel:Nat)(listed:Array Bool)(a:Act)(w:World)(rs:List Nat):Prop :=
 ∀ i∈rs,wpOp P ops Q i (fun a' w'=>(i ∉ Ks→S w')∧dS P md ops Q S Ks fuel (listed.setIfInBounds i true) a' w') a w
theorem ah.nil {fuel:Nat} {listed:Array Bool} {a:Act} {w:World}:ah P md ops Q S Ks fuel listed a w []:=fun _ h=>by cases h
theorem ah.cons {fuel:Nat} {listed:Array Bool} {a:Act} {w:World} {i:Nat} {o:Oper} {rs:List Nat} (ho:ops[i]?=some o)
 (h:∀ K':Act→World→Prop,Shut (∀ a w,S w→(S w→dS P md ops Q S Ks fuel (listed.setIfInBounds i true) a w)→K' a w)→if Region.wanted o (yielded ops a.tmps)=true then Oper.wp P o a w K' Q else K' (a.put o.dst undef) w)
 (hs:ah P md ops Q S Ks fuel listed a w rs):ah P md ops Q S Ks fuel listed a w (i::rs):=fun j hj=>by
 rcases List.mem_cons.1 hj with rfl | hj
 ·exact wpOp_step ho (fun K' hK=>h K' (fun a w hS hW=>hK a w ⟨fun _=>hS,hW hS⟩))
 ·exact hs j hj
theorem ah.late {fuel:Nat} {listed:Array Bool} {a:Act} {w:World} {i:Nat} {o:Oper} {rs:List Nat} (hi:i∈Ks)(ho:ops[i]?=some o)
 (h:∀ K':Act→World→Prop,Shut (∀ a w,dS P md ops Q S Ks fuel (listed.setIfInBounds i true) a w→K' a w)→if Region.wanted o (yielded ops a.tmps)=true then Oper.wp P o a w K' Q else K' (a.put o.dst undef) w)
 (hs:ah P md ops Q S Ks fuel listed a w rs):ah P md ops Q S Ks fuel listed a w (i::rs):=fun j hj=>by
 rcases List.mem_cons.1 hj with rfl | hj
 ·exact wpOp_step ho (fun K' hK=>h K' (fun a w hW=>hK a w ⟨fun e=>absurd hi e,hW⟩))
 ·exact hs j hj
theorem au {rs:List Nat} {fuel:Nat} {listed:Array Bool} {a:Act} {w:World} (hr:Region.ready md ops listed=rs)(hne:rs≠[])
 (h:ah P md ops Q S Ks fuel listed a w rs):dS P md ops Q S Ks (fuel+1) listed a w:=⟨fun h0=>absurd (hr ▸ h0) hne,hr ▸ h⟩
theorem dw {listed:Array Bool} {a:Act} {w:World} (hr:Region.ready md ops listed=[])(h:Q .normal a w) :
 ∀ fuel,dS P md ops Q S Ks fuel listed a w
 | 0=>⟨hr,h⟩
 | _+1=>⟨fun _=>h,by rw [hr];simp⟩
theorem dU {id:Nat} {a:Act} {w:World} (S:World→Prop)(Ks:List Nat)(hm:P.follows .mixedOrders=true)(hS:S w.drew)
 (h:S w.drew→dS P .any ops Q S Ks ops.size (Array.replicate ops.size false) a w.drew):(Code.region id ops true).wp P Q a w :=
 wp_region_any hm (jR _ _ _ _ (h hS))
end
end aj
end Go.Proofs.YtjhkihkiebnpaaaGreatDoor
