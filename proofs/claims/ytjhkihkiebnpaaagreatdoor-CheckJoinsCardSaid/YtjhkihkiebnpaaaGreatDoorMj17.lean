/-
  check.out: the columns a plan gives. (gen_ck9.py)
-/
import Derived.Test.YtjhkihkiebnpaaaGreatDoorMj0
import Derived.Test.YtjhkihkiebnpaaaGreatDoorMj15
import Derived.Test.YtjhkihkiebnpaaaGreatDoorMj14
import Derived.Test.YtjhkihkiebnpaaaGreatDoorMj7
import Derived.Test.YtjhkihkiebnpaaaGreatDoorCards
import Derived.Test.YtjhkihkiebnpaaaGreatDoorTie
import Derived.WalkKit
import Derived.ProofKit
import Derived.OpenShut
import Derived.Deep.DeepHandedRow
import Derived.Lib.LaidTab
import Derived.Lib.AppendIntMem
import Derived.JoinedCond
set_option linter.unusedVariables false
set_option linter.unusedSimpArgs false
set_option maxRecDepth 100000
set_option maxHeartbeats 40000000
namespace Go.Proofs.YtjhkihkiebnpaaaGreatDoor
open Go.RowKit
def OZ (D:List DM)(p:P):Prop:=jS p→∀ (a:PA)(w:World),kY w (LT w) p a→∀ (B:Option Addr)(d:Nat),mf w (LT w) B D→Calls Tryz.prog 23 #[p.val a,.slice B D.length d] w fun e w'=>yT (fun k=>w.heap.size≤k∧k<w'.heap.size) (gK D p) e w'∧Below w.heap.size w w'
theorem Yt {w:World} {base:Nat} {e:TypeId} {A:Option Addr} {j c:Nat} {us:List Value} (h:w.ownsRow base e 1 (.slice A j c) j us)(hj:0<j):∃ g,A=some ⟨g,0,none⟩∧base≤g∧g<w.heap.size∧∀ i u,us[i]?=some u→w.cell? ⟨g,i,none⟩=some u:=by
 have hlen:=h.1
 obtain⟨_,hcase⟩:=id h
 rcases hcase with⟨_,h0⟩|⟨g,cap,cur,e1,hg,hh,hn,hcap,hsz,htake⟩
 ·omega
 ·injection e1 with e2 e3 e4
  subst e2 e4
  refine⟨g,rfl,hg,(aU.1 hh).1,fun i u hu=>?_⟩
  have hi:i<us.length:=(aV.1 hu).1
  rw[h.cellAt _ (by omega)]
  exact hu
theorem VC {D:List DM} {kids:List P} {i n:Nat} (hn:kids.length≤n)(hi:i<kids.length):∃ y,kids[i]?=some y∧((kids.take n).map (fun x=>(gK D x).1))[i]?=some (wZ (kids.map (gK D)) i):=by
 refine⟨kids[i],aO hi,?_⟩
 rw[bJ hn]
 unfold wZ
 rw[List.getD_eq_getElem?_getD,bP,bP,aO hi]
 rfl
theorem LG {D:List DM} (hD:∀ d∈D,d.cols.length≤6)(kids:List P)(i:Nat):(wZ (kids.map (gK D)) i).length≤6:=by
 unfold wZ
 rw[List.getD_eq_getElem?_getD,bP]
 cases h:kids[i]? with
 | none=>simp
 | some x=>exact Lu hD x
theorem VD {D:List DM} {kids:List P} {j:Nat} {x:P} {ks:List (List C)} (hx:kids[j]?=some x)(hz:(gK D x).2.1=0)(h:ks=(kids.take j).map (fun x=>(gK D x).1)∧∀ i y,i<j→kids[i]?=some y→(gK D y).2.1=0) :
 ks++[(gK D x).1]=(kids.take (j+1)).map (fun x=>(gK D x).1)∧∀ i y,i<j+1→kids[i]?=some y→(gK D y).2.1=0:=by
 refine⟨by rw[List.take_add_one,hx,List.map_append,h.1];rfl,fun i y hi hy=>?_⟩
 rcases Nat.lt_or_ge i j with h1|h1
 ·exact h.2 i y h1 hy
 ·obtain rfl:i=j:=by omega
  rw[hx] at hy
  obtain rfl:=aY hy
  exact hz
theorem QB {α:Type} {p:α→Bool}:∀ (l:List α)(k:Nat),¬idx p l k<0→∃ (i:Nat)(x:α),idx p l k=((k+i:Nat):Int)∧l[i]?=some x
 | [],k,h=>absurd (by unfold idx;decide) h
 | x::l,k,h=>by
   unfold idx at h ⊢
   cases hp:p x
   ·rw[hp] at h
    obtain⟨i,y,h1,h2⟩:=QB l (k+1) (by simpa using h)
    exact⟨i+1,y,by simp only[Bool.false_eq_true,if_false];rw[h1];congr 1;omega,h2⟩
   ·exact⟨0,x,by simp,rfl⟩
theorem VE {w:World} {B:Nat} {e:TypeId} {A':Option Addr} {j c':Nat} {us:List Value} {ks:List (List C)} {D:List DM} {kids:List P} {Z:Nat→Prop} (hO:w.ownsRow B e 1 (.slice A' j c') j us)(hKA:Qz w (fun g=>B≤g∧g<w.heap.size∧Z g) us ks)
 (hall:ks=(kids.take j).map (fun x=>(gK D x).1))(hj:kids.length=j)(h0:0<j) :
 ∃ g,A'=some ⟨g,0,none⟩∧B≤g∧g<w.heap.size∧∀ i,i<j→∃ A0 c0,w.cell? ⟨g,i,none⟩=some (.slice A0 (wZ (kids.map (gK D)) i).length c0)∧(wZ (kids.map (gK D)) i).length≤c0∧iY w (fun q=>B≤q∧q<w.heap.size) A0 (wZ (kids.map (gK D)) i):=by
 obtain⟨g,hA,hB,hlt,hc⟩:=Yt hO h0
 refine⟨g,hA,hB,hlt,fun i hi=>?_⟩
 obtain⟨y,hy,hn⟩:=VC (D:=D) (Nat.le_of_eq hj) (i:=i) (by omega)
 rw[←hall] at hn
 obtain⟨A0,c0,h1,h2,h3⟩:=hKA i _ hn
 exact⟨A0,c0,hc i _ h1,h2,h3.mono fun q hq=>⟨hq.1,hq.2.1⟩⟩
theorem uf {w w3:World} {B p:Nat} {A:Option Addr} {n c:Nat} {R:uZ} {x0 x1:Value} (hp:p<B)(hw:w.heap.size≤B)(hR:R.2.1=0→n=R.1.length∧n≤c∧iY w3 (fun q=>B≤q∧q<w3.heap.size) A R.1) :
 yT (fun k=>w.heap.size≤k∧k<(xK w3 p x0 x1).heap.size) R (.returned (.tuple #[.slice A n c,.agg #[.int .i64 R.2.1,.string R.2.2]])) (xK w3 p x0 x1):=by
 refine⟨A,n,c,rfl,fun h=>?_⟩
 obtain⟨h1,h2,h3⟩:=hR h
 exact⟨h1,h2,(h3.kept fun k hk=>jT (by have:=hk.1;omega)).mono fun k hk=>⟨by have:=hk.1;omega,by rw[Q4];exact hk.2⟩⟩
theorem SS (D:List DM)(hDl:D.length≤1000)(hD6:∀ d∈D,d.cols.length≤6)(k:Int)(nm:ByteArray)(ex:List E)(cols left right:List ByteArray)(ag:List Ag)(kids:List P)(hM:∀ p∈kids,OZ D p):OZ D (.mk k nm ex cols left right ag kids):=by
 intro hg a w hA B d hB
 have hlow:∀ w',Below w.heap.size w w'→kY w' (fun k=>k<w'.heap.size) (.mk k nm ex cols left right ag kids) a:=fun w' hb=>(hA.kept fun k hk=>hb.block k hk).mono fun k hk=>aK hk hb.size
 obtain⟨_,_,_,_,_,_,_,_,h1,h7,hmf,hx2,h3,hcx,_,_,hkn,_,ll,lr,le,lg,hkg⟩:=hg
 have aaX:=ae (fun (h:k=3) w' (hb:Below w.heap.size w w')(B':Option Addr)(d':Nat)(iH:List C)(hin:iH.length≤6)(hI:l9 w' w'.heap.size B' iH)=>KA (.mk k nm ex cols left right ag kids) a w' (hlow w' hb) (h3 h) le B' d' iH (by omega) hI)
 have aaY:=ae (fun w' (hb:Below w.heap.size w w')(A' B':Option Addr)(c' d':Nat)(la lb:List C)(hla:la.length≤6)(hlb:lb.length≤6)(XM:l9 w' w'.heap.size A' la)(XN:l9 w' w'.heap.size B' lb)=>UK (.mk k nm ex cols left right ag kids) a w' (hlow w' hb) hA.parts.l3.2 hA.parts.l4.2 ll lr A' B' c' d' la lb (by omega) (by omega) XM XN)
 have aaZ:=ae (fun w' (hb:Below w.heap.size w w')(B':Option Addr)(d':Nat)(iH:List C)(hin:iH.length≤6)(hI:l9 w' w'.heap.size B' iH)=>group_any (.mk k nm ex cols left right ag kids) a w' (hlow w' hb) ll lg B' d' iH (by omega) hI)
 have HEX:=ae hA.parts.ex
 have JK:=hA.kids
 obtain⟨R,hR⟩:∃ R,R=gK D (.mk k nm ex cols left right ag kids):=⟨_,rfl⟩
 rw[←hR]
 have HBAD:=ae (fun (j:Nat)(x:P)(hx:kids[j]?=some x)(hb:(gK D x).2.1≠0) h=>hR.trans (Vx (k:=k) (nm:=nm) (ex:=ex) (cols:=cols) (left:=left) (right:=right) (ag:=ag) hx hb h))
 have ZU:=ae (fun h=>hR.trans (SI (k:=k) (nm:=nm) (ex:=ex) (cols:=cols) (left:=left) (right:=right) (ag:=ag) h))
 obtain⟨ea,ec,ca,cc,la',lc,ra,rc,ga,gc,ka,kc⟩:=a
 simp only[P.val,P.k,P.nm,P.ex,P.cols,P.left,P.right,P.ag,P.kids] at JK aaX aaY aaZ HEX ⊢
 have q6:=JK.len
 obtain⟨w0,zf⟩:∃ w0,w0=w.alloc (.cells #[.int .i64 k,.string nm,.slice ea ex.length ec,.slice ca cols.length cc,.slice la' left.length lc,.slice ra right.length rc,.slice ga ag.length gc,.slice ka kids.length kc] 27):=⟨_,rfl⟩
 have hb0:Below w.heap.size w w0:=by rw[zf];exact (aG _ _).alloc (aF _) _
 have hs0:w0.heap.size=w.heap.size+1:=by rw[zf];simp
 have hx0:w0.heap[w.heap.size]?=some (.cells #[.int .i64 k,.string nm,.slice ea ex.length ec,.slice ca cols.length cc,.slice la' left.length lc,.slice ra right.length rc,.slice ga ag.length gc,.slice ka kids.length kc] 27 (0,0)):=by rw[zf];exact aH w _
 obtain⟨w1,dZ⟩:∃ w1,w1=w0.alloc (.cells #[.int .i64 0,.string ⟨#[]⟩] 61):=⟨_,rfl⟩
 have hb1:Below w0.heap.size w0 w1:=by rw[dZ];exact (aG _ _).alloc (aF _) _
 have hs1:w.heap.size+1<w1.heap.size:=by rw[dZ];simp;omega
 have jJ:Hid (w1.heap[w.heap.size]?=some (.cells #[.int .i64 k,.string nm,.slice ea ex.length ec,.slice ca cols.length cc,.slice la' left.length lc,.slice ra right.length rc,.slice ga ag.length gc,.slice ka kids.length kc] 27 (0,0))):=ae ((hb1.block _ (by omega)).trans hx0)
 have HF1:Hid (w1.heap[w.heap.size+1]?=some (.cells #[.int .i64 0,.string ⟨#[]⟩] 61 (0,0))):=ae (by rw[dZ,←hs0];exact aH w0 _)
 have HW1:=ae (show w1=(w.alloc (.cells #[.int .i64 k,.string nm,.slice ea ex.length ec,.slice ca cols.length cc,.slice la' left.length lc,.slice ra right.length rc,.slice ga ag.length gc,.slice ka kids.length kc] 27)).alloc (.cells #[.int .i64 0,.string ⟨#[]⟩] 61) by rw[dZ,zf])
 have HB1:=ae (hb0.trans (hb1.mono (by omega)))
 obtain⟨i0,hi,hz0,hz1,hz2⟩:=info_parts VA
 obtain⟨n6,en6⟩:∃ n,kids.length=n:=⟨_,rfl⟩
 have EN6:=ae en6
 have hkb:kids.length≤2:=by rw[hkn];unfold dY;repeat' split
                            all_goals omega
 have HKN:=ae hkn
 have HK:=ae JK
 have HM:=ae hM
 have HKG:=ae hkg
 have HDB:=ae hB
 have iI:=ae hx2
 have HD6:=ae hD6
 have HDL:=ae hDl
 obtain⟨dn,edn⟩:∃ n,D.length=n:=⟨_,rfl⟩
 have HDN:=ae edn
 rw[edn] at hDl ⊢
 rw[en6] at hkb q6 jJ HW1 aaX aaY aaZ ⊢
 clear hA hlow JK hM en6 hkn hkg hB hx2 hD6 edn zf dZ hb0 hb1 hx0 hs0 hR hmf h3 hcx ll lr le lg
 obtain⟨d0,d1,d2,d3,d4,d5,d6,d7,f0,f1,f2,f3,f4,f5,f6,f7⟩:=dO jJ.o
 go_enter Tryz.func23,Tryz.ntmps23
 go_upto_region 1 with (fail)
 rw[←HW1.o]
 go_wp2_with fail
 go_loopw [6,17] (fun v i wr=>∃ (j:Nat)(A':Option Addr)(c':Nat)(us:List Value)(ks:List (List C)),j≤n6∧i=.int .i64 j∧v=.slice A' j c'∧Hid (us.length=j∧ks.length=j)∧wr.ownsRow w1.heap.size 29 1 (.slice A' j c') j us∧Below w1.heap.size w1 wr ∧
  Hid (Qz wr (fun g=>w1.heap.size≤g∧g<wr.heap.size∧(Value.slice A' j c').ownBlock≠some g) us ks)∧Hid (ks=(kids.take j).map (fun x=>(gK D x).1)∧∀ i y,i<j→kids[i]?=some y→(gK D y).2.1=0)) (fun _ i _=>n6-(intOf i).toNat)
 case atStart=>exact⟨0,none,0,[],[],aX _,rfl,rfl,ae ⟨rfl,rfl⟩,⟨rfl,.inl ⟨rfl,rfl⟩⟩,aG _ _,ae (fun i k h=>by simp at h),ae ⟨by simp,fun i y h=>absurd h (Nat.not_lt_zero _)⟩⟩
 case round =>
  obtain⟨j,A',c',us,ks,hj,rfl,rfl,kC,hown,hb,HKA,oQ⟩:=hrel
  have HO:=ae hown
  have HB:=ae hb
  have hs:=hb.size
  have gZ:=ae (HB1.o.trans (hb.mono (by omega)))
  have xq:=ae ((hb.block w.heap.size (by omega)).trans jJ.o)
  have N8:=ae ((hb.block (w.heap.size+1) (by omega)).trans HF1.o)
  clear hown hb d0 d1 d2 d3 d4 d5 d6 d7 f0 f1 f2 f3 f4 f5 f6 f7
  obtain⟨d0,d1,d2,d3,d4,d5,d6,d7,f0,f1,f2,f3,f4,f5,f6,f7⟩:=dO xq.o
  by_cases hlt:j<n6
  ·obtain⟨x,hx⟩:=jF EN6.o.symm hlt
   have HX:=ae hx
   obtain⟨b,o,a1,rfl,hb1,hc1,hp1⟩:=HK.o.gy gZ.o hx
   have m0:=hc1 0 _ rfl
   have m1:=hc1 1 _ rfl
   have m2:=hc1 2 _ rfl
   have m3:=hc1 3 _ rfl
   have m4:=hc1 4 _ rfl
   have m5:=hc1 5 _ rfl
   have m6:=hc1 6 _ rfl
   have m7:=hc1 7 _ rfl
   rw[Nat.add_zero] at m0
   obtain⟨wx,iK⟩:∃ wx,wx=wr.alloc (.cells #[.int .i64 x.k,.string x.nm,.slice a1.ea x.ex.length a1.ec,.slice a1.ca x.cols.length a1.cc,.slice a1.la x.left.length a1.lc,.slice a1.ra x.right.length a1.rc,.slice a1.ga x.ag.length a1.gc,.slice a1.ka x.kids.length a1.kc] 27):=⟨_,rfl⟩
   have hbx:Below wr.heap.size wr wx:=by rw[iK];exact (aG _ _).alloc (aF _) _
   have hnx:wx.heap[wr.heap.size]?=some (.cells #[.int .i64 x.k,.string x.nm,.slice a1.ea x.ex.length a1.ec,.slice a1.ca x.cols.length a1.cc,.slice a1.la x.left.length a1.lc,.slice a1.ra x.right.length a1.rc,.slice a1.ga x.ag.length a1.gc,.slice a1.ka x.kids.length a1.kc] 27 (0,0)):=by rw[iK];exact aH wr _
   have tH:=gZ.o.trans (hbx.mono gZ.o.size)
   have hcl:=HM.o x (aN hx) (HKG.o x (aN hx)) a1 wx (hp1.low hbx) B d ((HDB.o.kept fun k hk=>tH.block k hk).mono fun k hk=>aK hk tH.size)
   rw[HDN.o] at hcl
   have jW:=ae hbx
   simp only[P.val] at hcl
   have lG:=ae hcl
   have ni:=ae iK
   clear iK hbx tH hx hc1 hp1 hcl
   obtain⟨rx,hrx⟩:∃ rx,gK D x=rx:=⟨_,rfl⟩
   have HRX:=ae hrx
   rw[hrx] at lG
   clear hrx
   obtain⟨cl,wy,wn⟩:=rx
   generalize x.k=xk at *
   generalize x.nm=JH at *
   generalize x.ex.length=x1 at *
   generalize x.cols.length=x2 at *
   generalize x.left.length=x3 at *
   generalize x.right.length=x4 at *
   generalize x.ag.length=x5 at *
   generalize x.kids.length=x6 at *
   obtain⟨qa,qb,qc,qd,qe,qf,qg,qh,qi,qj,qk,ql⟩:=a1
   simp only at m0 m1 m2 m3 m4 m5 m6 m7 lG ni hnx
   obtain⟨z0,z1,z2,z3,z4,z5,z6,z7,_,_,_,_,_,_,_,_⟩:=dO hnx
   go_upto_region 5 with (fail)
   rw[←ni.o]
   go_wp2_with fail
   refine (lG.o).mono ?_
   rintro e w3 ⟨⟨A3,n3',c3,rfl,hr3⟩,hb3⟩
   simp only at hr3
   have HR3:=ae hr3
   have hs3:=hb3.size
   have anT:=ae hb3
   obtain⟨w4,yw⟩:∃ w4,w4=w3.alloc (.cells #[.int .i64 wy,.string wn] 61):=⟨_,rfl⟩
   have HW4:=ae yw
   have VF:Hid (Below w3.heap.size w3 w4):=ae (by rw[yw];exact (aG _ _).alloc (aF _) _)
   have ZR:Hid (w4.heap[w3.heap.size]?=some (.cells #[.int .i64 wy,.string wn] 61 (0,0))):=ae (by rw[yw];exact aH w3 _)
   have HB4:Hid (Below wr.heap.size wr w4):=ae ((jW.o.trans (hb3.mono jW.o.size)).trans (VF.o.mono (aS jW.o.size hs3)))
   have hs4:=HB4.o.size
   have wX:=ae (gZ.o.trans (HB4.o.mono gZ.o.size))
   have HF4:=ae ((HB4.o.block (w.heap.size+1) (by omega)).trans N8.o)
   clear hb3 hr3 yw z0 z1 z2 z3 z4 z5 z6 z7 m0 m1 m2 m3 m4 m5 m6 m7 hnx d0 d1 d2 d3 d4 d5 d6 d7 f0 f1 f2 f3 f4 f5 f6 f7
   have anU:w3.heap.size<w4.heap.size:=(aU.1 ZR.o).1
   obtain⟨⟨t0,t1⟩,_,_⟩:=cell2 ZR.o
   go_upto_region 6 with (fail)
   rw[←HW4.o]
   by_cases hwy:wy=0
   ·subst hwy
    obtain⟨hn3,hc3,hC3⟩:=HR3.o rfl
    subst hn3
    have HC3:=ae hC3
    have ahX:=ae hc3
    have aee:=ae (VD HX.o (by rw[HRX.o]) oQ.o)
    rw[HRX.o] at aee
    have mP:=ae (own_below HO.o HB4.o)
    have ahY:Hid (iY w4 (fun g=>wr.heap.size≤g∧g<w4.heap.size) A3 cl):=ae ((hC3.kept fun g hg=>VF.o.block g hg.2).mono fun g hg=>⟨aS jW.o.size hg.1,by omega⟩)
    clear hC3 hc3
    obtain⟨cn,ecn⟩:∃ cn,cl.length=cn:=⟨_,rfl⟩
    have HCN:=ae ecn
    have hjm:j≤600:=by omega
    rw[ecn]
    clear ecn
    go_wp2_with (at_builtin;refine wpList_append_lies _ rfl _ _ 92 rfl w1.heap.size 29 i0 _ 1 24 Tryz.underlying92 hi hz0 hz1 hz2 rfl (by decide) (.slice A' j c') j us rfl (mP.o.alloc _) ⟨w4.heap.size,0,none⟩ 1 1 [.slice A3 cn c3] rfl rfl ?c1 ?c2 (by decide) ?c3 ?c4 ?c5 _ rfl ?_)
    case c2=>rfl
    case c3=>exact oq rfl hjm
    case c4=>exact lX rfl hjm (by decide)
    case c5=>first|omega|(simp;omega)
    intro g' cap w5 hown hgrow hat Au
    have jq:=ae hown
    have sW:Hid (w4.grownBy w5 (Value.slice A' j c').ownBlock):=ae ((World.grownBy_alloc _ _ _).trans hgrow)
    have jA:=ae (((HB.o.trans (HB4.o.mono hs)).alloc (by omega) (.cells #[.slice A3 cn c3] 29)).grown hgrow (by simp;omega) (fun k e=>(mP.o.lt k e).1))
    have jP:Hid ((Value.slice (some ⟨g',0,none⟩) (j+1) cap).ownBlock=(Value.slice A' j c').ownBlock∨∃ n,(Value.slice (some ⟨g',0,none⟩) (j+1) cap).ownBlock=some n∧w4.heap.size≤n):=ae (hat.imp (fun h=>h.symm) fun h=>⟨g',rfl,by rw[h];simp⟩)
    clear hown hgrow hat
    go_wp2_with fail
    go_roundw
    case rel =>
     refine⟨j+1,_,cap,us++[.slice A3 cn c3],ks++[cl],hlt,by simp,rfl,ae ⟨by simp[kC.o.1],by simp[kC.o.2]⟩,jq.o,jA.o,ae ?_,aee⟩
     have:=Vz (n:=0) (v':=Value.slice (some ⟨g',0,none⟩) (j+1) cap) (k:=cl) (c:=c3) (A:=A3) HKA.o (kC.o.1.trans kC.o.2.symm) (fun g h=>HO.o.lt g h) HB4.o ahY.o sW.o jP.o sW.o.size ahX.o hs
     rw[HCN.o] at this
     exact this
    case measure=>exact pG hlt
   ·have ah0:(wy != 0)=true:=by simpa using hwy
    have HL2:Hid (R=kQ wy wn):=ae (by rw[HBAD.o j x HX.o (by rw[HRX.o];exact hwy) oQ.o.2,HRX.o];rfl)
    obtain⟨⟨r0,r1⟩,g0,g1⟩:=cell2 HF4.o
    go_upto_region 7 with (fail)
    go_region
    all_goals
     go_wp2_with fail
     refine aJ (eF rfl rfl rfl (mW HF4.o)) rfl ?_
     exact⟨je hwy HL2.o rfl,(eG wX.o (aW _)).drew⟩
  ·have hjn:j=n6:=by omega
   subst hjn
   have HL2:=ae (ZU.o (fun i y hy=>oQ.o.2 i y (by have:=(aV.1 hy).1;rw[EN6.o] at this;exact this) hy))
   have Vb:=ae (fun h0=>VE (D:=D) HO.o HKA.o oQ.o.1 EN6.o h0)
   obtain⟨a0,ea0⟩:∃ a0,a0=wZ (kids.map (gK D)) 0:=⟨_,rfl⟩
   obtain⟨b0,eb0⟩:∃ b0,b0=wZ (kids.map (gK D)) 1:=⟨_,rfl⟩
   have HA6:Hid (a0.length≤6):=ae (by rw[ea0];exact LG HD6.o kids 0)
   have kD:Hid (b0.length≤6):=ae (by rw[eb0];exact LG HD6.o kids 1)
   rw[←ea0,←eb0] at HL2
   have HEA:=ae ea0
   have HEB:=ae eb0
   have hkj:Hid (j=dY k):=ae (by rw[←EN6.o,HKN.o])
   have hwp:w.heap.size<wr.heap.size:=by omega
   have SV:w.heap.size+1<wr.heap.size:=by omega
   clear HBAD ZU oQ HKA HO kC ea0 eb0
   obtain hk|hk|hk|hk|hk|hk|hk:k=1∨k=2∨k=3∨k=4∨k=5∨k=6∨k=7:=by omega
   ·subst hk
    have htab:R=Gp D nm:=HL2.o
    unfold Gp at htab
    have HDW:Hid (mf wr (LT w) B D):=ae (HDB.o.kept fun k hk=>gZ.o.block k hk)
    have HIX:=ae (Gq B d D nm w.heap.size wr HDW.o (fun k hk=>Nat.lt_trans hk hwp) (by have:=HDL.o;omega) xq.o)
    rw[HDN.o] at HIX
    obtain⟨iv,eiv⟩:∃ v,idx (DM.oM nm) D 0=v:=⟨_,rfl⟩
    rw[eiv] at HIX htab
    have aeg:=ae htab
    have HIV:=ae eiv
    clear htab eiv
    go_wp2_with fail
    refine (HIX.o).mono ?_
    rintro e w3 ⟨rfl,hb3⟩
    have HB3:=ae hb3
    have hs3:=hb3.size
    have nO:=ae ((hb3.block w.heap.size hwp).trans xq.o)
    have HF3:=ae ((hb3.block (w.heap.size+1) SV).trans N8.o)
    clear hb3 d0 d1 d2 d3 d4 d5 d6 d7 f0 f1 f2 f3 f4 f5 f6 f7
    obtain⟨d0,d1,d2,d3,d4,d5,d6,d7,f0,f1,f2,f3,f4,f5,f6,f7⟩:=dO nO.o
    obtain⟨⟨r0,r1⟩,g0,g1⟩:=cell2 HF3.o
    by_cases hiv:iv<0
    ·have hd:decide (iv<0)=true:=decide_eq_true hiv
     have HR2:Hid (R=kQ 20 nm):=ae (by rw[aeg.o,if_pos hiv])
     go_upto_region 14 with (fail)
     go_region
     all_goals
      go_wp2_with fail
      refine aJ (eF rfl rfl rfl (mW HF3.o)) rfl ?_
      exact⟨je (by decide) HR2.o rfl,(eG (gZ.o.trans (HB3.o.mono gZ.o.size)) (aW _)).drew⟩
    ·obtain⟨i,t,hit,ht⟩:=QB D 0 (by rw[HIV.o];exact hiv)
     rw[HIV.o,Nat.zero_add] at hit
     subst hit
     have hil:i<dn:=by rw[←HDN.o];exact (aV.1 ht).1
     have anV:(i:Int)<(dn:Int):=by omega
     have hd:decide ((i:Int)<0)=false:=decide_eq_false hiv
     have HR2:Hid (R=(t.cols,0,⟨#[]⟩)):=ae (by
      rw[aeg.o,if_neg hiv,Int.toNat_natCast,List.getD_eq_getElem?_getD,ht]
      rfl)
     have HD3:=ae (HDW.o.kept (w':=w3) fun k hk=>HB3.o.block k (Nat.lt_trans hk hwp))
     obtain⟨bd,od,rfl,hbd,hcn,hcs⟩:=HD3.o.get ht
     have Q5:=ae (cloneCols t.cA t.cc t.cols w3 (HD3.o.cols t (aN ht)) (fun k hk=>aK (Nat.lt_trans hk hwp) hs3) (by have:=HD6.o t (aN ht);omega))
     obtain⟨tn,tA,tc,tl⟩:=t
     simp only at hcn hcs Q5 HR2
     obtain⟨tm,etm⟩:∃ m,tl.length=m:=⟨_,rfl⟩
     have HTM:=ae etm
     rw[etm] at hcs Q5
     clear etm ht
     go_wp2_with fail
     refine (Q5.o).mono ?_
     rintro e w5 ⟨⟨v',rfl,hown⟩,hb5⟩
     rw[←HTM.o] at hown
     obtain⟨A9,c9,rfl,IV,hC9⟩:=qA (S:=fun q=>w1.heap.size≤q∧q<w5.heap.size) hown (fun q q1 q2 _=>⟨by omega,q2⟩)
     have HC9:=ae hC9
     have jA:=ae (HB3.o.trans (hb5.mono hs3))
     have HF5:=ae ((hb5.block (w.heap.size+1) (by omega)).trans HF3.o)
     clear hown hb5 hC9 r0 r1 g0 g1 d0 d1 d2 d3 d4 d5 d6 d7 f0 f1 f2 f3 f4 f5 f6 f7 hcn hcs
     obtain⟨⟨r0,r1⟩,g0,g1⟩:=cell2 HF5.o
     go_wp2_with fail
     refine aJ (eF rfl rfl rfl (eX HF5.o)) rfl ?_
     refine⟨?_,eG (gZ.o.trans (jA.o.mono gZ.o.size)) (aW _)⟩
     rw[HR2.o]
     exact uf (R:=(tl,0,⟨#[]⟩)) (B:=w1.heap.size) hs1 (by omega) (fun h=>⟨rfl,IV,HC9.o⟩)
   ·subst hk
    have h0j:0<j:=by rw[hkj.o];decide
    have VG:(0:Int)<(j:Int):=by omega
    obtain⟨g,rfl,hg1,hg2,hgc⟩:=Vb.o h0j
    obtain⟨A0,c0,m0,hc0,hC0⟩:=hgc 0 h0j
    rw[←HEA.o] at m0 hc0 hC0
    have P7:=ae hC0
    have Bd:g≠w.heap.size+1:=by omega
    obtain⟨an,EI⟩:∃ n,a0.length=n:=⟨_,rfl⟩
    have SX:=ae EI
    rw[EI] at m0 hc0
    clear hgc hC0 EI
    have aei:=iI.o rfl
    obtain⟨e,he⟩:∃ e,ex[0]?=some e:=⟨_,aO (by rw[aei];decide)⟩
    have hfe:R=Qy a0 (ex.getD 0 zeroE):=HL2.o
    rw[List.getD_eq_getElem?_getD,he] at hfe
    obtain⟨b,o,A2,c2,rfl,hbe,z0,z1,z2,z3,hKx⟩:=(HEX.o.to (B:=w.heap.size) (fun k hk=>hk)).gy wr gZ.o 0 e he
    rw[Nat.zero_mul,Nat.add_zero] at z0 z1 z2 z3
    have Xi:=ae (JX a0 (by have:=HA6.o;omega) e A2 A0 c2 c0 wr.drew (hKx.low (aG _ wr).drew) (P7.o.to fun q hq=>hq.2))
    rw[SX.o] at Xi
    have VH:R=Qy a0 e:=hfe
    unfold Qy at VH
    obtain⟨ty,hty⟩:∃ ty,ty=jf a0 e:=⟨_,rfl⟩
    rw[←hty] at Xi VH
    obtain⟨tk,tw⟩:=ty
    simp only at VH
    have HFE:=ae VH
    obtain⟨ek,es,eN,el⟩:=e
    simp only[E.val,E.k,E.s,E.n,E.kids] at z0 z1 z2 z3 Xi
    obtain⟨em,eem⟩:∃ m,el.length=m:=⟨_,rfl⟩
    rw[eem] at z3 Xi
    have hx0:0<ex.length:=by omega
    have anW:(0:Int)<(ex.length:Int):=by omega
    have hbr:b<wr.heap.size:=by omega
    have hbne:b≠w.heap.size+1:=by omega
    clear aei he hfe VH hty hKx eem
    go_upto_region 17 with (fail)
    refine wp_region_held_drew (S:=fun w'=>∀ q,q<wr.heap.size→q≠w.heap.size+1→w'.heap[q]?=wr.heap[q]?) (by kernel_rfl) (fun q _ _=>rfl) (fun hHeld=>?_)
    refine aC (i:=0) (v:=.pointer (some ⟨w.heap.size,2,none⟩)) rfl (by kernel_rfl) aA (bD ⟨by rfl,fun _ _=>by go_simp⟩) ‹_› ?_
    simp only[ah,ai,Act.put,au,ay,az]
    refine aC (i:=1) (v:=.slice (some ⟨b,o,none⟩) ex.length ec) rfl (by kernel_rfl) aA (bD ⟨by rfl,fun w1' hSw=>by (have y9:=dO ((hSw w.heap.size hwp (by omega)).trans xq.o);obtain⟨y0,y1,y2,y3,y4,y5,y6,y7,_,_,_,_,_,_,_,_⟩:=y9;go_simp)⟩) ‹_› ?_
    simp only[ah,aj,ai,Act.put,au,ay,az]
    refine aC (i:=2) (v:=.pointer (some ⟨b,o,none⟩)) rfl (by kernel_rfl) aA (bD ⟨by rfl,fun _ _=>by go_simp⟩) ‹_› ?_
    simp only[ah,aj,ai,Act.put,au,ay,az]
    refine aC (i:=3) (v:=.agg #[.int .i64 ek,.string es,.int .i64 eN,.slice A2 em c2]) rfl (by kernel_rfl) aA (bD ⟨by rfl,fun w1' hSw=>by (have x0:=(aT (a:=⟨b,o,none⟩) (hSw b hbr hbne)).trans z0;have x1:=(aT (a:=⟨b,o+1,none⟩) (hSw b hbr hbne)).trans z1;have x2:=(aT (a:=⟨b,o+2,none⟩) (hSw b hbr hbne)).trans z2;have x3:=(aT (a:=⟨b,o+3,none⟩) (hSw b hbr hbne)).trans z3;go_simp)⟩) ‹_› ?_
    simp only[ah,aj,ai,Act.put,au,ay,az]
    refine aC (i:=4) (v:=.slice (some ⟨g,0,none⟩) j c') rfl (by kernel_rfl) aA (bD ⟨by rfl,fun _ _=>by go_simp⟩) ‹_› ?_
    simp only[ah,aj,ai,Act.put,au,ay,az]
    refine aC (i:=5) (v:=.pointer (some ⟨g,0,none⟩)) rfl (by kernel_rfl) aA (bD ⟨by rfl,fun _ _=>by go_simp⟩) ‹_› ?_
    simp only[ah,aj,ai,Act.put,au,ay,az]
    refine aC (i:=6) (v:=.slice A0 an c0) rfl (by kernel_rfl) aA (bD ⟨by rfl,fun w1' hSw=>by (have y0:=(aT (a:=⟨g,0,none⟩) (hSw g hg2 Bd)).trans m0;go_simp)⟩) ‹_› ?_
    simp only[ah,aj,ai,Act.put,au,ay,az]
    refine wpAnyH_ready (rs:=[7]) (by kernel_rfl) (by simp) ?_
    refine AllReadyH.cons rfl (fun K hK=>?_) AllReadyH.nil
    simp only[ah,aj,ai]
    go_simp
    refine (Xi.o).mono ?_
    rintro e w3 ⟨rfl,hb3⟩
    have HB3:Hid (Below wr.heap.size wr w3):=ae ((aG wr.heap.size wr).drew.trans hb3)
    have HF3:=ae ((HB3.o.block (w.heap.size+1) SV).trans N8.o)
    go_wp2_with fail
    have hS3:∀ q,q<wr.heap.size→q≠w.heap.size+1→w3.heap[q]?=wr.heap[q]?:=fun q hq _=>HB3.o.block q hq
    refine hK.o _ _ hS3 (fun hHeld=>?_)
    clear hK K hb3
    refine aC (i:=8) (v:=.tuple #[.int .i64 tk,.int .i64 tw]) rfl (by kernel_rfl) aA (bD ⟨by rfl,fun _ _=>by go_simp⟩) ‹_› ?_
    simp only[ah,aj,ai,Act.put,au,ay,az]
    refine aC (i:=9) (v:=.int .i64 tk) rfl (by kernel_rfl) aA (bD ⟨by rfl,fun _ _=>by go_simp⟩) ‹_› ?_
    simp only[ah,aj,ai,Act.put,au,ay,az]
    refine aC (i:=10) (v:=.int .i64 tw) rfl (by kernel_rfl) aA (bD ⟨by rfl,fun _ _=>by go_simp⟩) ‹_› ?_
    simp only[ah,aj,ai,Act.put,au,ay,az]
    refine aC (i:=11) (v:=.int .i64 tk) rfl (by kernel_rfl) aA (bD ⟨by rfl,fun _ _=>by go_simp⟩) ‹_› ?_
    simp only[ah,aj,ai,Act.put,au,ay,az]
    refine aC (i:=12) (v:=.int .i64 tw) rfl (by kernel_rfl) aA (bD ⟨by rfl,fun _ _=>by go_simp⟩) ‹_› ?_
    simp only[ah,aj,ai,Act.put,au,ay,az]
    refine wpAnyH_done (by kernel_rfl) ?_ _
    have m3:=(aT (a:=⟨g,0,none⟩) (hS3 g hg2 Bd)).trans m0
    obtain⟨⟨r0,r1⟩,g0,g1⟩:=cell2 HF3.o
    clear d0 d1 d2 d3 d4 d5 d6 d7 f0 f1 f2 f3 f4 f5 f6 f7 m0 z0 z1 z2 z3
    have aa4:Hid (∀ why:Int,R=(a0,why,⟨#[]⟩)→yT (fun k=>w.heap.size≤k∧k<(xK w3 (w.heap.size+1) (.int .i64 why) (.string ⟨#[]⟩)).heap.size) R (.returned (.tuple #[.slice A0 an c0,.agg #[.int .i64 why,.string ⟨#[]⟩]])) (xK w3 (w.heap.size+1) (.int .i64 why) (.string ⟨#[]⟩))∧Below w.heap.size w (xK w3 (w.heap.size+1) (.int .i64 why) (.string ⟨#[]⟩))):=ae (fun why hR=>by
     refine⟨?_,eG (gZ.o.trans (HB3.o.mono gZ.o.size)) (aW _)⟩
     rw[hR]
     exact uf (R:=(a0,why,⟨#[]⟩)) (B:=w1.heap.size) hs1 (by omega) (fun h=>⟨SX.o.symm,hc0,(P7.o.kept fun q hq=>HB3.o.block q hq.2).mono fun q hq=>⟨hq.1,aK hq.2 HB3.o.size⟩⟩))
    by_cases htw:tw=0
    ·subst htw
     by_cases htk:tk=1
     ·subst htk
      have HR2:Hid (R=(a0,0,⟨#[]⟩)):=ae (by rw[HFE.o];rfl)
      go_wp2_with fail
      refine aJ (eF rfl rfl rfl (eX HF3.o)) rfl ?_
      exact aa4.o 0 HR2.o
     ·have anX:(tk != 1)=true:=by simpa using htk
      have HR2:Hid (R=(a0,22,⟨#[]⟩)):=ae (by rw[HFE.o,if_pos ⟨rfl,htk⟩])
      go_wp2_with fail
      refine aJ (eF rfl rfl rfl (eX HF3.o)) rfl ?_
      exact aa4.o 22 HR2.o
    ·have ac8:(tw==0)=false:=by simpa using htw
     have HR2:Hid (R=(a0,tw,⟨#[]⟩)):=ae (by rw[HFE.o,if_neg (fun h=>htw h.1)])
     go_wp2_with fail
     refine aJ (eF rfl rfl rfl (eX HF3.o)) rfl ?_
     exact aa4.o tw HR2.o
   ·subst hk
    have h0j:0<j:=by rw[hkj.o];decide
    have VG:(0:Int)<(j:Int):=by omega
    obtain⟨g,rfl,hg1,hg2,hgc⟩:=Vb.o h0j
    obtain⟨A0,c0,m0,hc0,hC0⟩:=hgc 0 h0j
    rw[←HEA.o] at m0 hc0 hC0
    have P7:=ae hC0
    have Bd:g≠w.heap.size+1:=by omega
    obtain⟨an,EI⟩:∃ n,a0.length=n:=⟨_,rfl⟩
    have SX:=ae EI
    rw[EI] at m0 hc0
    clear hgc hC0 EI
    have He:=ae (aaX.o rfl wr.drew gZ.o.drew A0 c0 a0 HA6.o (P7.o.to fun q hq=>hq.2))
    rw[SX.o,show iL a0 [] (cols.zip ex)=R from HL2.o.symm] at He
    go_upto_region 22 with (fail)
    refine wp_region_held_drew (S:=fun w'=>∀ q,q<wr.heap.size→q≠w.heap.size+1→w'.heap[q]?=wr.heap[q]?) (by kernel_rfl) (fun q _ _=>rfl) (fun hHeld=>?_)
    refine aC (i:=0) (v:=(.agg #[.int .i64 3,.string nm,.slice ea ex.length ec,.slice ca cols.length cc,.slice la' left.length lc,.slice ra right.length rc,.slice ga ag.length gc,.slice ka j kc])) rfl (by kernel_rfl) aA (bD ⟨by rfl,fun w1' hSw=>by (have y9:=dO ((hSw w.heap.size hwp (by omega)).trans xq.o);obtain⟨y0,y1,y2,y3,y4,y5,y6,y7,_,_,_,_,_,_,_,_⟩:=y9;go_simp)⟩) ‹_› ?_
    simp only[ah,ai,Act.put,au,ay,az]
    refine aC (i:=1) (v:=.slice (some ⟨g,0,none⟩) j c') rfl (by kernel_rfl) aA (bD ⟨by rfl,fun _ _=>by go_simp⟩) ‹_› ?_
    simp only[ah,aj,ai,Act.put,au,ay,az]
    refine aC (i:=2) (v:=.pointer (some ⟨g,0,none⟩)) rfl (by kernel_rfl) aA (bD ⟨by rfl,fun _ _=>by go_simp⟩) ‹_› ?_
    simp only[ah,aj,ai,Act.put,au,ay,az]
    refine aC (i:=3) (v:=.slice A0 an c0) rfl (by kernel_rfl) aA (bD ⟨by rfl,fun w1' hSw=>by (have y0:=(aT (a:=⟨g,0,none⟩) (hSw g hg2 Bd)).trans m0;go_simp)⟩) ‹_› ?_
    simp only[ah,aj,ai,Act.put,au,ay,az]
    refine wpAnyH_ready (rs:=[4]) (by kernel_rfl) (by simp) ?_
    refine AllReadyH.cons rfl (fun K hK=>?_) AllReadyH.nil
    simp only[ah,aj,ai]
    go_simp
    refine (He.o).mono ?_
    rintro e w3 ⟨⟨A9,n9,c9,rfl,QC⟩,hb3⟩
    have J8:=ae QC
    have HB3:Hid (Below wr.heap.size wr w3):=ae ((aG wr.heap.size wr).drew.trans hb3)
    have HF3:=ae ((HB3.o.block (w.heap.size+1) SV).trans N8.o)
    go_wp2_with fail
    have hS3:∀ q,q<wr.heap.size→q≠w.heap.size+1→w3.heap[q]?=wr.heap[q]?:=fun q hq _=>HB3.o.block q hq
    refine hK.o _ _ hS3 (fun hHeld=>?_)
    clear hK K hb3 QC
    obtain⟨⟨r0,r1⟩,g0,g1⟩:=cell2 HF3.o
    refine aC (i:=5) (v:=.slice A9 n9 c9) rfl (by kernel_rfl) aA (bD ⟨by rfl,fun _ _=>by go_simp⟩) ‹_› ?_
    simp only[ah,aj,ai,Act.put,au,ay,az]
    refine aC (i:=6) (v:=.agg #[.int .i64 R.2.1,.string R.2.2]) rfl (by kernel_rfl) aA (bD ⟨by rfl,fun _ _=>by go_simp⟩) ‹_› ?_
    simp only[ah,aj,ai,Act.put,au,ay,az]
    refine aC (i:=7) (v:=.slice A9 n9 c9) rfl (by kernel_rfl) aA (bD ⟨by rfl,fun _ _=>by go_simp⟩) ‹_› ?_
    simp only[ah,aj,ai,Act.put,au,ay,az]
    refine wpAnyH_ready (rs:=[8]) (by kernel_rfl) (by simp) ?_
    refine AllReadyH.cons rfl (fun K hK=>?_) AllReadyH.nil
    simp only[ah,aj,ai]
    go_simp
    refine hK.o _ _ (fun q hq hn=>(jT hn).trans (hS3 q hq hn)) (fun hHeld=>?_)
    clear hK K
    refine wpAnyH_done (by kernel_rfl) ?_ _
    go_wp2_with fail
    refine aJ (eF rfl rfl rfl (eX HF3.o)) rfl ?_
    refine⟨uf (B:=w1.heap.size) hs1 (by omega) (fun h=>?_),eG (gZ.o.trans (HB3.o.mono gZ.o.size)) (aW _)⟩
    obtain⟨y1,y2,y3⟩:=J8.o h
    exact⟨y1,y2,y3.mono fun q hq=>⟨aS hs hq.1,hq.2⟩⟩
   ·subst hk
    have h0j:0<j:=by rw[hkj.o];decide
    have VG:(0:Int)<(j:Int):=by omega
    obtain⟨g,rfl,hg1,hg2,hgc⟩:=Vb.o h0j
    obtain⟨A0,c0,m0,hc0,hC0⟩:=hgc 0 h0j
    rw[←HEA.o] at m0 hc0 hC0
    have P7:=ae hC0
    have Bd:g≠w.heap.size+1:=by omega
    obtain⟨an,EI⟩:∃ n,a0.length=n:=⟨_,rfl⟩
    have SX:=ae EI
    rw[EI] at m0 hc0
    have h1j:1<j:=by rw[hkj.o];decide
    have ah6:(1:Int)<(j:Int):=by omega
    obtain⟨A1,c1,m1,hc1,hC1⟩:=hgc 1 h1j
    rw[←HEB.o] at m1 hc1 hC1
    have Qe:=ae hC1
    obtain⟨bn,ebn⟩:∃ n,b0.length=n:=⟨_,rfl⟩
    have Ns:=ae ebn
    rw[ebn] at m1 hc1
    clear hgc hC0 EI hC1 ebn
    have He:=ae (aaY.o wr.drew gZ.o.drew A0 A1 c0 c1 a0 b0 HA6.o kD.o (P7.o.to fun q hq=>hq.2) (Qe.o.to fun q hq=>hq.2))
    rw[SX.o,Ns.o,show qU a0 b0 left right=R from HL2.o.symm] at He
    go_upto_region 24 with (fail)
    refine wp_region_held_drew (S:=fun w'=>∀ q,q<wr.heap.size→q≠w.heap.size+1→w'.heap[q]?=wr.heap[q]?) (by kernel_rfl) (fun q _ _=>rfl) (fun hHeld=>?_)
    refine aC (i:=0) (v:=(.agg #[.int .i64 4,.string nm,.slice ea ex.length ec,.slice ca cols.length cc,.slice la' left.length lc,.slice ra right.length rc,.slice ga ag.length gc,.slice ka j kc])) rfl (by kernel_rfl) aA (bD ⟨by rfl,fun w1' hSw=>by (have y9:=dO ((hSw w.heap.size hwp (by omega)).trans xq.o);obtain⟨y0,y1,y2,y3,y4,y5,y6,y7,_,_,_,_,_,_,_,_⟩:=y9;go_simp)⟩) ‹_› ?_
    simp only[ah,ai,Act.put,au,ay,az]
    refine aC (i:=1) (v:=.slice (some ⟨g,0,none⟩) j c') rfl (by kernel_rfl) aA (bD ⟨by rfl,fun _ _=>by go_simp⟩) ‹_› ?_
    simp only[ah,aj,ai,Act.put,au,ay,az]
    refine aC (i:=2) (v:=.pointer (some ⟨g,0,none⟩)) rfl (by kernel_rfl) aA (bD ⟨by rfl,fun _ _=>by go_simp⟩) ‹_› ?_
    simp only[ah,aj,ai,Act.put,au,ay,az]
    refine aC (i:=3) (v:=.slice A0 an c0) rfl (by kernel_rfl) aA (bD ⟨by rfl,fun w1' hSw=>by (have y0:=(aT (a:=⟨g,0,none⟩) (hSw g hg2 Bd)).trans m0;go_simp)⟩) ‹_› ?_
    simp only[ah,aj,ai,Act.put,au,ay,az]
    refine aC (i:=4) (v:=.slice (some ⟨g,0,none⟩) j c') rfl (by kernel_rfl) aA (bD ⟨by rfl,fun _ _=>by go_simp⟩) ‹_› ?_
    simp only[ah,aj,ai,Act.put,au,ay,az]
    refine aC (i:=5) (v:=.pointer (some ⟨g,1,none⟩)) rfl (by kernel_rfl) aA (bD ⟨by rfl,fun _ _=>by go_simp⟩) ‹_› ?_
    simp only[ah,aj,ai,Act.put,au,ay,az]
    refine aC (i:=6) (v:=.slice A1 bn c1) rfl (by kernel_rfl) aA (bD ⟨by rfl,fun w1' hSw=>by (have y1:=(aT (a:=⟨g,1,none⟩) (hSw g hg2 Bd)).trans m1;go_simp)⟩) ‹_› ?_
    simp only[ah,aj,ai,Act.put,au,ay,az]
    refine wpAnyH_ready (rs:=[7]) (by kernel_rfl) (by simp) ?_
    refine AllReadyH.cons rfl (fun K hK=>?_) AllReadyH.nil
    simp only[ah,aj,ai]
    go_simp
    refine (He.o).mono ?_
    rintro e w3 ⟨⟨A9,n9,c9,rfl,QC⟩,hb3⟩
    have J8:=ae QC
    have HB3:Hid (Below wr.heap.size wr w3):=ae ((aG wr.heap.size wr).drew.trans hb3)
    have HF3:=ae ((HB3.o.block (w.heap.size+1) SV).trans N8.o)
    go_wp2_with fail
    have hS3:∀ q,q<wr.heap.size→q≠w.heap.size+1→w3.heap[q]?=wr.heap[q]?:=fun q hq _=>HB3.o.block q hq
    refine hK.o _ _ hS3 (fun hHeld=>?_)
    clear hK K hb3 QC
    obtain⟨⟨r0,r1⟩,g0,g1⟩:=cell2 HF3.o
    refine aC (i:=8) (v:=.slice A9 n9 c9) rfl (by kernel_rfl) aA (bD ⟨by rfl,fun _ _=>by go_simp⟩) ‹_› ?_
    simp only[ah,aj,ai,Act.put,au,ay,az]
    refine aC (i:=9) (v:=.agg #[.int .i64 R.2.1,.string R.2.2]) rfl (by kernel_rfl) aA (bD ⟨by rfl,fun _ _=>by go_simp⟩) ‹_› ?_
    simp only[ah,aj,ai,Act.put,au,ay,az]
    refine aC (i:=10) (v:=.slice A9 n9 c9) rfl (by kernel_rfl) aA (bD ⟨by rfl,fun _ _=>by go_simp⟩) ‹_› ?_
    simp only[ah,aj,ai,Act.put,au,ay,az]
    refine wpAnyH_ready (rs:=[11]) (by kernel_rfl) (by simp) ?_
    refine AllReadyH.cons rfl (fun K hK=>?_) AllReadyH.nil
    simp only[ah,aj,ai]
    go_simp
    refine hK.o _ _ (fun q hq hn=>(jT hn).trans (hS3 q hq hn)) (fun hHeld=>?_)
    clear hK K
    refine wpAnyH_done (by kernel_rfl) ?_ _
    go_wp2_with fail
    refine aJ (eF rfl rfl rfl (eX HF3.o)) rfl ?_
    refine⟨uf (B:=w1.heap.size) hs1 (by omega) (fun h=>?_),eG (gZ.o.trans (HB3.o.mono gZ.o.size)) (aW _)⟩
    obtain⟨y1,y2,y3⟩:=J8.o h
    exact⟨y1,y2,y3.mono fun q hq=>⟨aS hs hq.1,hq.2⟩⟩
   ·subst hk
    have h0j:0<j:=by rw[hkj.o];decide
    have VG:(0:Int)<(j:Int):=by omega
    obtain⟨g,rfl,hg1,hg2,hgc⟩:=Vb.o h0j
    obtain⟨A0,c0,m0,hc0,hC0⟩:=hgc 0 h0j
    rw[←HEA.o] at m0 hc0 hC0
    have P7:=ae hC0
    have Bd:g≠w.heap.size+1:=by omega
    obtain⟨an,EI⟩:∃ n,a0.length=n:=⟨_,rfl⟩
    have SX:=ae EI
    rw[EI] at m0 hc0
    have h1j:1<j:=by rw[hkj.o];decide
    have ah6:(1:Int)<(j:Int):=by omega
    obtain⟨A1,c1,m1,hc1,hC1⟩:=hgc 1 h1j
    rw[←HEB.o] at m1 hc1 hC1
    have Qe:=ae hC1
    obtain⟨bn,ebn⟩:∃ n,b0.length=n:=⟨_,rfl⟩
    have Ns:=ae ebn
    rw[ebn] at m1 hc1
    clear hgc hC0 EI hC1 ebn
    have He:=ae (Q7 A0 A1 c0 c1 a0 b0 (by have:=HA6.o;omega) (by have:=kD.o;omega) (by rw[SX.o];exact hc0) wr.drew (S:=fun q=>w1.heap.size≤q∧q<wr.heap.size) P7.o Qe.o (fun q hq=>hq.2))
    rw[SX.o,Ns.o,show qy a0 b0=R from HL2.o.symm] at He
    go_upto_region 26 with (fail)
    refine wp_region_held_drew (S:=fun w'=>∀ q,q<wr.heap.size→q≠w.heap.size+1→w'.heap[q]?=wr.heap[q]?) (by kernel_rfl) (fun q _ _=>rfl) (fun hHeld=>?_)
    refine aC (i:=0) (v:=.slice (some ⟨g,0,none⟩) j c') rfl (by kernel_rfl) aA (bD ⟨by rfl,fun _ _=>by go_simp⟩) ‹_› ?_
    simp only[ah,ai,Act.put,au,ay,az]
    refine aC (i:=1) (v:=.pointer (some ⟨g,0,none⟩)) rfl (by kernel_rfl) aA (bD ⟨by rfl,fun _ _=>by go_simp⟩) ‹_› ?_
    simp only[ah,aj,ai,Act.put,au,ay,az]
    refine aC (i:=2) (v:=.slice A0 an c0) rfl (by kernel_rfl) aA (bD ⟨by rfl,fun w1' hSw=>by (have y0:=(aT (a:=⟨g,0,none⟩) (hSw g hg2 Bd)).trans m0;go_simp)⟩) ‹_› ?_
    simp only[ah,aj,ai,Act.put,au,ay,az]
    refine aC (i:=3) (v:=.slice (some ⟨g,0,none⟩) j c') rfl (by kernel_rfl) aA (bD ⟨by rfl,fun _ _=>by go_simp⟩) ‹_› ?_
    simp only[ah,aj,ai,Act.put,au,ay,az]
    refine aC (i:=4) (v:=.pointer (some ⟨g,1,none⟩)) rfl (by kernel_rfl) aA (bD ⟨by rfl,fun _ _=>by go_simp⟩) ‹_› ?_
    simp only[ah,aj,ai,Act.put,au,ay,az]
    refine aC (i:=5) (v:=.slice A1 bn c1) rfl (by kernel_rfl) aA (bD ⟨by rfl,fun w1' hSw=>by (have y1:=(aT (a:=⟨g,1,none⟩) (hSw g hg2 Bd)).trans m1;go_simp)⟩) ‹_› ?_
    simp only[ah,aj,ai,Act.put,au,ay,az]
    refine wpAnyH_ready (rs:=[6]) (by kernel_rfl) (by simp) ?_
    refine AllReadyH.cons rfl (fun K hK=>?_) AllReadyH.nil
    simp only[ah,aj,ai]
    go_simp
    refine (He.o).mono ?_
    rintro e w3 ⟨⟨A9,n9,c9,rfl,QC⟩,hb3⟩
    have J8:=ae QC
    have HB3:Hid (Below wr.heap.size wr w3):=ae ((aG wr.heap.size wr).drew.trans hb3)
    have HF3:=ae ((HB3.o.block (w.heap.size+1) SV).trans N8.o)
    go_wp2_with fail
    have hS3:∀ q,q<wr.heap.size→q≠w.heap.size+1→w3.heap[q]?=wr.heap[q]?:=fun q hq _=>HB3.o.block q hq
    refine hK.o _ _ hS3 (fun hHeld=>?_)
    clear hK K hb3 QC
    obtain⟨⟨r0,r1⟩,g0,g1⟩:=cell2 HF3.o
    refine aC (i:=7) (v:=.slice A9 n9 c9) rfl (by kernel_rfl) aA (bD ⟨by rfl,fun _ _=>by go_simp⟩) ‹_› ?_
    simp only[ah,aj,ai,Act.put,au,ay,az]
    refine aC (i:=8) (v:=.agg #[.int .i64 R.2.1,.string R.2.2]) rfl (by kernel_rfl) aA (bD ⟨by rfl,fun _ _=>by go_simp⟩) ‹_› ?_
    simp only[ah,aj,ai,Act.put,au,ay,az]
    refine aC (i:=9) (v:=.slice A9 n9 c9) rfl (by kernel_rfl) aA (bD ⟨by rfl,fun _ _=>by go_simp⟩) ‹_› ?_
    simp only[ah,aj,ai,Act.put,au,ay,az]
    refine wpAnyH_ready (rs:=[10]) (by kernel_rfl) (by simp) ?_
    refine AllReadyH.cons rfl (fun K hK=>?_) AllReadyH.nil
    simp only[ah,aj,ai]
    go_simp
    refine hK.o _ _ (fun q hq hn=>(jT hn).trans (hS3 q hq hn)) (fun hHeld=>?_)
    clear hK K
    refine wpAnyH_done (by kernel_rfl) ?_ _
    go_wp2_with fail
    refine aJ (eF rfl rfl rfl (eX HF3.o)) rfl ?_
    refine⟨uf (B:=w1.heap.size) hs1 (by omega) (fun h=>?_),eG (gZ.o.trans (HB3.o.mono gZ.o.size)) (aW _)⟩
    obtain⟨y1,y2,y3⟩:=J8.o h
    exact⟨y1,y2,y3.mono fun q hq=>⟨hq.1,aK hq.2 HB3.o.size⟩⟩
   ·subst hk
    have h0j:0<j:=by rw[hkj.o];decide
    have VG:(0:Int)<(j:Int):=by omega
    obtain⟨g,rfl,hg1,hg2,hgc⟩:=Vb.o h0j
    obtain⟨A0,c0,m0,hc0,hC0⟩:=hgc 0 h0j
    rw[←HEA.o] at m0 hc0 hC0
    have P7:=ae hC0
    have Bd:g≠w.heap.size+1:=by omega
    obtain⟨an,EI⟩:∃ n,a0.length=n:=⟨_,rfl⟩
    have SX:=ae EI
    rw[EI] at m0 hc0
    clear hgc hC0 EI
    have yO:Hid (R=(a0,0,⟨#[]⟩)):=ae HL2.o
    obtain⟨⟨r0,r1⟩,g0,g1⟩:=cell2 N8.o
    go_wp2_with fail
    refine aJ (eF rfl rfl rfl (eX N8.o)) rfl ?_
    refine⟨?_,eG gZ.o (aW _)⟩
    rw[yO.o]
    exact uf (R:=(a0,0,⟨#[]⟩)) (B:=w1.heap.size) hs1 (by omega) (fun h=>⟨SX.o.symm,hc0,P7.o⟩)
   ·subst hk
    have h0j:0<j:=by rw[hkj.o];decide
    have VG:(0:Int)<(j:Int):=by omega
    obtain⟨g,rfl,hg1,hg2,hgc⟩:=Vb.o h0j
    obtain⟨A0,c0,m0,hc0,hC0⟩:=hgc 0 h0j
    rw[←HEA.o] at m0 hc0 hC0
    have P7:=ae hC0
    have Bd:g≠w.heap.size+1:=by omega
    obtain⟨an,EI⟩:∃ n,a0.length=n:=⟨_,rfl⟩
    have SX:=ae EI
    rw[EI] at m0 hc0
    clear hgc hC0 EI
    have He:=ae (aaZ.o wr.drew gZ.o.drew A0 c0 a0 HA6.o (P7.o.to fun q hq=>hq.2))
    rw[SX.o,show jB a0 ag [] left=R from HL2.o.symm] at He
    go_upto_region 28 with (fail)
    refine wp_region_held_drew (S:=fun w'=>∀ q,q<wr.heap.size→q≠w.heap.size+1→w'.heap[q]?=wr.heap[q]?) (by kernel_rfl) (fun q _ _=>rfl) (fun hHeld=>?_)
    refine aC (i:=0) (v:=(.agg #[.int .i64 7,.string nm,.slice ea ex.length ec,.slice ca cols.length cc,.slice la' left.length lc,.slice ra right.length rc,.slice ga ag.length gc,.slice ka j kc])) rfl (by kernel_rfl) aA (bD ⟨by rfl,fun w1' hSw=>by (have y9:=dO ((hSw w.heap.size hwp (by omega)).trans xq.o);obtain⟨y0,y1,y2,y3,y4,y5,y6,y7,_,_,_,_,_,_,_,_⟩:=y9;go_simp)⟩) ‹_› ?_
    simp only[ah,ai,Act.put,au,ay,az]
    refine aC (i:=1) (v:=.slice (some ⟨g,0,none⟩) j c') rfl (by kernel_rfl) aA (bD ⟨by rfl,fun _ _=>by go_simp⟩) ‹_› ?_
    simp only[ah,aj,ai,Act.put,au,ay,az]
    refine aC (i:=2) (v:=.pointer (some ⟨g,0,none⟩)) rfl (by kernel_rfl) aA (bD ⟨by rfl,fun _ _=>by go_simp⟩) ‹_› ?_
    simp only[ah,aj,ai,Act.put,au,ay,az]
    refine aC (i:=3) (v:=.slice A0 an c0) rfl (by kernel_rfl) aA (bD ⟨by rfl,fun w1' hSw=>by (have y0:=(aT (a:=⟨g,0,none⟩) (hSw g hg2 Bd)).trans m0;go_simp)⟩) ‹_› ?_
    simp only[ah,aj,ai,Act.put,au,ay,az]
    refine wpAnyH_ready (rs:=[4]) (by kernel_rfl) (by simp) ?_
    refine AllReadyH.cons rfl (fun K hK=>?_) AllReadyH.nil
    simp only[ah,aj,ai]
    go_simp
    refine (He.o).mono ?_
    rintro e w3 ⟨⟨A9,n9,c9,rfl,QC⟩,hb3⟩
    have J8:=ae QC
    have HB3:Hid (Below wr.heap.size wr w3):=ae ((aG wr.heap.size wr).drew.trans hb3)
    have HF3:=ae ((HB3.o.block (w.heap.size+1) SV).trans N8.o)
    go_wp2_with fail
    have hS3:∀ q,q<wr.heap.size→q≠w.heap.size+1→w3.heap[q]?=wr.heap[q]?:=fun q hq _=>HB3.o.block q hq
    refine hK.o _ _ hS3 (fun hHeld=>?_)
    clear hK K hb3 QC
    obtain⟨⟨r0,r1⟩,g0,g1⟩:=cell2 HF3.o
    refine aC (i:=5) (v:=.slice A9 n9 c9) rfl (by kernel_rfl) aA (bD ⟨by rfl,fun _ _=>by go_simp⟩) ‹_› ?_
    simp only[ah,aj,ai,Act.put,au,ay,az]
    refine aC (i:=6) (v:=.agg #[.int .i64 R.2.1,.string R.2.2]) rfl (by kernel_rfl) aA (bD ⟨by rfl,fun _ _=>by go_simp⟩) ‹_› ?_
    simp only[ah,aj,ai,Act.put,au,ay,az]
    refine aC (i:=7) (v:=.slice A9 n9 c9) rfl (by kernel_rfl) aA (bD ⟨by rfl,fun _ _=>by go_simp⟩) ‹_› ?_
    simp only[ah,aj,ai,Act.put,au,ay,az]
    refine wpAnyH_ready (rs:=[8]) (by kernel_rfl) (by simp) ?_
    refine AllReadyH.cons rfl (fun K hK=>?_) AllReadyH.nil
    simp only[ah,aj,ai]
    go_simp
    refine hK.o _ _ (fun q hq hn=>(jT hn).trans (hS3 q hq hn)) (fun hHeld=>?_)
    clear hK K
    refine wpAnyH_done (by kernel_rfl) ?_ _
    go_wp2_with fail
    refine aJ (eF rfl rfl rfl (eX HF3.o)) rfl ?_
    refine⟨uf (B:=w1.heap.size) hs1 (by omega) (fun h=>?_),eG (gZ.o.trans (HB3.o.mono gZ.o.size)) (aW _)⟩
    obtain⟨y1,y2,y3⟩:=J8.o h
    exact⟨y1,y2,y3.mono fun q hq=>⟨aS hs hq.1,hq.2⟩⟩
theorem VI (D:List DM)(hDl:D.length≤1000)(hD6:∀ d∈D,d.cols.length≤6):∀ p,OZ D p:=P.ind (SS D hDl hD6)
theorem vW (p:P)(hpr:uG (fD p))(a:PA)(w:World)(hA:kY w (LT w) p a)(hE:Env w)(ZY:∀ w1,Below w.heap.size w w1→kY w1 (LT w1) p a→Calls Tryz.prog 32 #[p.val a] w1 (pF w1 (fD p))) :
 Calls Tryz.prog 17 #[p.val a] w fun e w'=>(∃ s:ByteArray,e=.returned (.string s)∧((mY (uN p)).2.1≠0→s=⟨#[]⟩))∧Below w.heap.size w w':=by
 obtain⟨w1,dZ⟩:∃ w1,w1=w.alloc (.cells (p.bx a) 27):=⟨_,rfl⟩
 have hb1:Below w.heap.size w w1:=by rw[dZ];exact QD w p a
 have hx1:w1.heap[w.heap.size]?=some (.cells (p.bx a) 27 (0,0)):=by rw[dZ];exact VY w p a
 have hA1:=hA.low hb1
 have hE1:=hE.low hb1
 have htr:=ZY w1 hb1 hA1
 have FT:=ae (fun A' c' w' (hw:Below w1.heap.size w1 w')(h1:(fD p).kids.length≤c')(h2:fA w' w'.heap.size A' (fD p).kids)=>print_any (fD p) hpr A' c' w' h1 h2 (hE1.low hw).pow)
 have Js:=ae (fun w' (hw:Below w1.heap.size w1 w')=>zL (uN p) w' (hE1.low hw))
 have Yh:=ae (fun q b w' (hw:Below w1.heap.size w1 w')(hb:kY w' (LT w') q b)=>S9 p q a b w' (hA1.low hw) hb)
 have hps:Hid ((⟨(jr (fD p)).toArray⟩:ByteArray)=uN p):=ae rfl
 rw[hps.o] at FT
 have hz:w.heap.size<w1.heap.size:=(aU.1 hx1).1
 have HB1:=ae hb1
 have HW1:=ae dZ
 have jJ:=ae hx1
 generalize uN p=pp at *
 generalize mY pp=RU at *
 obtain⟨q,qw,ql⟩:=RU
 generalize fD p=tp at *
 obtain⟨uk,us,un,ul,uo⟩:=tp
 simp only[T.val,T.k,T.s,T.n,T.kids,T.at_] at FT
 clear hpr hA hE hb1 hx1 hA1 hE1 dZ ZY
 simp only[P.val,P.bx,zK] at htr Js Yh HW1 jJ ⊢
 have IP:=ae htr
 clear htr
 obtain⟨z0,z1,z2,z3,z4,z5,z6,z7,_,_,_,_,_,_,_,_⟩:=dO jJ.o
 go_enter Tryz.func17,Tryz.ntmps17
 go_upto_region 1 with (fail)
 rw[←HW1.o]
 go_wp2_with fail
 refine (IP.o).mono ?_
 rintro e w2 ⟨⟨A7,c7,rfl,Qn,Qo⟩,hb2⟩
 have HB2:=ae hb2
 have lG:=ae (FT.o A7 c7 w2 hb2 Qn (Qo.to fun k hk=>hk.2))
 simp only[T.val,T.k,T.s,T.n,T.kids,T.at_]
 clear hb2 Qo Qn
 go_wp2_with fail
 refine (lG.o).mono ?_
 rintro e w3 ⟨rfl,hb3⟩
 have HB3:=ae (HB2.o.trans (hb3.mono HB2.o.size))
 clear hb3
 go_wp2_with fail
 refine (Js.o w3 HB3.o).mono ?_
 rintro e w4 ⟨⟨b,rfl,hP4⟩,hb4⟩
 try simp only[P.val]
 have HB4:=ae (HB3.o.trans (hb4.mono HB3.o.size))
 obtain⟨w5,yx⟩:∃ w5,w5=w4.alloc (.cells #[.int .i64 q.k,.string q.nm,.slice b.ea q.ex.length b.ec,.slice b.ca q.cols.length b.cc,.slice b.la q.left.length b.lc,.slice b.ra q.right.length b.rc,.slice b.ga q.ag.length b.gc,.slice b.ka q.kids.length b.kc] 27):=⟨_,rfl⟩
 have hb5:Below w4.heap.size w4 w5:=by rw[yx];exact (aG _ _).alloc (aF _) _
 have hx5:w5.heap[w4.heap.size]?=some (.cells #[.int .i64 q.k,.string q.nm,.slice b.ea q.ex.length b.ec,.slice b.ca q.cols.length b.cc,.slice b.la q.left.length b.lc,.slice b.ra q.right.length b.rc,.slice b.ga q.ag.length b.gc,.slice b.ka q.kids.length b.kc] 27 (0,0)):=by rw[yx];exact aH w4 _
 have jA:=ae (HB4.o.trans (hb5.mono HB4.o.size))
 have hsm:=Yh.o q b w5 jA.o ((hP4.mono (S':=LT w4) fun k hk=>hk.2).low hb5)
 try simp only[P.val] at hsm
 have HS:=ae hsm
 have Ue:=ae yx
 clear hb4 hb5 hP4 yx hsm z0 z1 z2 z3 z4 z5 z6 z7
 obtain⟨z0,z1,z2,z3,z4,z5,z6,z7,_,_,_,_,_,_,_,_⟩:=dO ((jA.o.block _ hz).trans jJ.o)
 obtain⟨y0,y1,y2,y3,y4,y5,y6,y7,_,_,_,_,_,_,_,_⟩:=dO hx5
 go_upto_region 3 with (fail)
 rw[←Ue.o]
 by_cases hw:qw=0
 ·subst hw
  go_wp2_with fail
  refine (HS.o).mono ?_
  rintro e w6 ⟨⟨bb,rfl⟩,hb6⟩
  have kD:=ae (HB1.o.trans ((jA.o.trans (hb6.mono jA.o.size)).mono HB1.o.size))
  clear hb6
  cases bb
  ·go_wp2_with fail
   go_ret
   exact⟨⟨_,rfl,fun h=>absurd rfl h⟩,kD.o⟩
  ·go_wp2_with fail
   go_ret
   exact⟨⟨_,rfl,fun h=>absurd rfl h⟩,kD.o⟩
 ·have hw':(qw==0)=false:=by simpa using hw
  have hw2:(qw != 0)=true:=by simpa using hw
  go_wp2_with fail
  go_ret
  exact⟨⟨_,rfl,fun _=>rfl⟩,HB1.o.trans (jA.o.mono HB1.o.size)⟩
theorem Bf:fD gq=dW:=by unfold gq;rw[fD,if_pos (by decide)]
theorem Tn (a:PA)(w:World):Calls Tryz.prog 32 #[.agg #[.int .i64 0,.string ⟨#[]⟩,.slice a.ea 0 a.ec,.slice a.ca 0 a.cc,.slice a.la 0 a.lc,.slice a.ra 0 a.rc,.slice a.ga 0 a.gc,.slice a.ka 0 a.kc]] w (pF w dW):=by
 obtain⟨wa,qx⟩:∃ wa,wa=w.alloc (.cells #[.int .i64 0,.string ⟨#[]⟩,.slice a.ea 0 a.ec,.slice a.ca 0 a.cc,.slice a.la 0 a.lc,.slice a.ra 0 a.rc,.slice a.ga 0 a.gc,.slice a.ka 0 a.kc] 27):=⟨_,rfl⟩
 have hba:Below w.heap.size w wa:=by rw[qx];exact (aG _ _).alloc (aF _) _
 have hsa:wa.heap.size=w.heap.size+1:=by rw[qx];simp
 have hxa:wa.heap[w.heap.size]?=some (.cells #[.int .i64 0,.string ⟨#[]⟩,.slice a.ea 0 a.ec,.slice a.ca 0 a.cc,.slice a.la 0 a.lc,.slice a.ra 0 a.rc,.slice a.ga 0 a.gc,.slice a.ka 0 a.kc] 27 (0,0)):=by rw[qx];exact aH w _
 obtain⟨w1,dZ⟩:∃ w1,w1=wa.alloc (.cells #[.int .i64 0,.string ⟨#[]⟩,.int .i64 0,.slice none 0 0,.int .i64 0] 71):=⟨_,rfl⟩
 have hb1:Below wa.heap.size wa w1:=by rw[dZ];exact (aG _ _).alloc (aF _) _
 have hs1:w1.heap.size=w.heap.size+2:=by rw[dZ];simp;omega
 have hr1:w1.heap[w.heap.size+1]?=some (.cells #[.int .i64 0,.string ⟨#[]⟩,.int .i64 0,.slice none 0 0,.int .i64 0] 71 (0,0)):=by rw[dZ,←hsa];exact aH wa _
 have HW1:=ae (show w1=(w.alloc (.cells #[.int .i64 0,.string ⟨#[]⟩,.slice a.ea 0 a.ec,.slice a.ca 0 a.cc,.slice a.la 0 a.lc,.slice a.ra 0 a.rc,.slice a.ga 0 a.gc,.slice a.ka 0 a.kc] 27)).alloc (.cells #[.int .i64 0,.string ⟨#[]⟩,.int .i64 0,.slice none 0 0,.int .i64 0] 71) by rw[dZ,qx])
 obtain⟨w2,AQ⟩:∃ w2,w2=w1.alloc (.cells #[.string ⟨#[]⟩,.string ⟨#[116,97,98,108,101]⟩,.string ⟨#[102,105,108,116,101,114]⟩,.string ⟨#[112,114,111,106,101,99,116]⟩,.string ⟨#[106,111,105,110]⟩,.string ⟨#[117,110,105,111,110]⟩,.string ⟨#[100,105,115,116,105,110,99,116]⟩,.string ⟨#[103,114,111,117,112]⟩] 9):=⟨_,rfl⟩
 have hb2:Below w1.heap.size w1 w2:=by rw[AQ];exact (aG _ _).alloc (aF _) _
 have HB:Hid (Below w.heap.size w w2):=ae ((hba.trans (hb1.mono (by omega))).trans (hb2.mono (by omega)))
 have HR:=ae ((hb2.block _ (by omega)).trans hr1)
 have HX:=ae ((hb2.block w.heap.size (by omega)).trans ((hb1.block _ (by omega)).trans hxa))
 have HW2:=ae AQ
 obtain⟨d0,_,_,_,_,_,_,_,_,_,_,_,_,_,_,_⟩:=dO HX.o
 obtain⟨⟨r0,r1,r2,r3,r4⟩,s0,s1,s2,s3,s4⟩:=dN HR.o
 clear qx hba hsa hxa dZ hb1 hs1 hr1 AQ hb2
 go_enter Tryz.func32,Tryz.ntmps32
 go_upto_region 1 with (fail)
 rw[←HW1.o]
 go_upto_region 2 with (fail)
 rw[←HW2.o]
 go_wp2_with fail
 refine aJ (jw rfl rfl (dR HR.o)) rfl ?_
 exact⟨⟨none,0,rfl,aF _,.nil _⟩,dS HB.o (aW _)⟩
theorem VZ:uG dW:=.mk _ _ _ _ _ (by decide) (by decide) (fun h=>by simp at h) (fun h=>by simp at h)
theorem Tq:uN gq=⟨#[]⟩:=by unfold uN;rw[Bf];rfl
theorem zero_read:(mY ⟨#[]⟩).2.1≠0:=by
 have h:(mY ⟨#[]⟩).2.1=10:=by kernel_rfl
 rw[h]
 decide
theorem Jw (w:World)(S:Nat→Prop)(a:PA):kY w S gq a:=⟨⟨.nil _,.inl rfl,.inl rfl,.inl rfl,.inl rfl,by simp[gq,P.ex],by simp[gq,P.cols],by simp[gq,P.left],by simp[gq,P.right],by simp[gq,P.ag]⟩,.nil _⟩
theorem ER (a:PA)(w:World)(hE:Env w):Calls Tryz.prog 17 #[gq.val a] w fun e w'=>e=.returned (.string ⟨#[]⟩)∧Below w.heap.size w w':=by
 refine (vW gq (by rw[Bf];exact VZ) a w (Jw w _ a) hE (fun w1 _ _=>by rw[Bf];exact Tn a w1)).mono ?_
 rintro e w' ⟨⟨s,rfl,hs⟩,hb⟩
 rw[Tq] at hs
 exact⟨by rw[hs zero_read],hb⟩
theorem ES (p:P)(hm:BN p)(hf:Ee p)(hpr:uG (fD p))(a:PA)(w:World)(hA:kY w (LT w) p a)(hE:Env w):Calls Tryz.prog 17 #[p.val a] w fun e w'=>(∃ s,e=.returned (.string s))∧Below w.heap.size w w':=by
 refine (vW p hpr a w hA hE (fun w1 _ h1=>AX p hm hf a w1 h1)).mono ?_
 rintro e w' ⟨⟨s,rfl,_⟩,hb⟩
 exact⟨⟨s,rfl⟩,hb⟩
def ExP (p:P):Prop:=p≠gq∧mY (uN p)=(p,0,0)∧(uN p).size≤600∧(uN p).toList.isEmpty=false
def uB (D:List DM)(p:P)(w:World)(e:Ending)(w':World):Prop :=
 ∃ (A:Option Addr)(n c:Nat)(why:Int)(nm:ByteArray),e=.returned (.tuple #[.slice A n c,.int .i64 why,.string nm]) ∧
   ((why=0∧p≠gq∧(gK D p).2.1=0∧n=(gK D p).1.length∧n≤c∧iY w' (fun q=>w.heap.size≤q∧q<w'.heap.size) A (gK D p).1)∨(why=12∧n=0∧¬ExP p)∨(why≠0∧n=0∧p≠gq∧why=(gK D p).2.1∧nm=(gK D p).2.2))
theorem lT (D:List DM)(hDl:D.length≤1000)(hD6:∀ d∈D,d.cols.length≤6)(hok:Bv (D.map DM.key)=0)(p:P)(hp:p=gq∨(jS p∧uG (fD p)))(a:PA)(w:World)(hA:kY w (LT w) p a)(hE:Env w)(B:Option Addr)(d:Nat)(hdc:D.length≤d)(hB:mf w (LT w) B D) :
 Calls Tryz.prog 8 #[p.val a,.slice B D.length d] w fun e w'=>uB D p w e w'∧Below w.heap.size w w':=by
 have hlow:∀ w',Below w.heap.size w w'→kY w' (LT w') p a:=fun w' hb=>hA.low hb
 have V3:∀ w',Below w.heap.size w w'→mf w' (LT w') B D:=fun w' hb=>(hB.kept fun k hk=>hb.block k hk).mono fun k hk=>aK hk hb.size
 have HDF:=ae (fun w' (hb:Below w.heap.size w w')=>QO B d D w' (V3 w' hb) (fun k hk=>hk) (by omega) hdc (fun t ht=>by have:=hD6 t ht;omega))
 have D6:Hid (∀ w',Below w.heap.size w w'→Calls Tryz.prog 17 #[p.val a] w' fun e w2=>(∃ s,e=.returned (.string s)∧(p=gq→s=⟨#[]⟩)∧(ExP p→s.toList.isEmpty=false))∧Below w'.heap.size w' w2):=ae (fun w' hb=>by
  by_cases hx:ExP p
  ·obtain⟨hz,h1,h2,h3⟩:=hx
   obtain⟨hg,hpr⟩:=hp.resolve_left hz
   refine (Jv (Io p hg) (Ip p hg) hpr (aS h2 (by decide)) h1 a w' (hlow w' hb) (hE.low hb)).mono ?_
   rintro e w2 ⟨rfl,h4⟩
   exact⟨⟨_,rfl,fun h=>absurd h hz,fun _=>h3⟩,h4⟩
  by_cases hz:p=gq
  ·subst hz
   refine (ER a w' (hE.low hb)).mono ?_
   rintro e w2 ⟨rfl,h2⟩
   exact⟨⟨_,rfl,fun _=>rfl,fun h=>absurd h hx⟩,h2⟩
  ·obtain⟨hg,hpr⟩:=hp.resolve_left hz
   refine (ES p (Io p hg) (Ip p hg) hpr a w' (hlow w' hb) (hE.low hb)).mono ?_
   rintro e w2 ⟨⟨s,rfl⟩,h2⟩
   exact⟨⟨_,rfl,fun h=>absurd h hz,fun h=>absurd h hx⟩,h2⟩)
 have Xl:=ae (fun (hz:p≠gq) w' (hb:Below w.heap.size w w')=>VI D hDl hD6 p (hp.resolve_left hz).1 a w' (hlow w' hb) B d (V3 w' hb))
 have HOK:=ae hok
 obtain⟨dn,edn⟩:∃ n,D.length=n:=⟨_,rfl⟩
 have HDN:=ae edn
 rw[edn] at hdc HDF Xl ⊢
 obtain⟨R,hR⟩:∃ R,R=gK D p:=⟨_,rfl⟩
 rw[←hR] at Xl
 obtain⟨Z,hZ⟩:∃ Z:Prop,Z↔p=gq:=⟨_,Iff.rfl⟩
 obtain⟨X,hX⟩:∃ X:Prop,X↔ExP p:=⟨_,Iff.rfl⟩
 obtain⟨Q,hQ⟩:∃ Q:Ending→World→Prop,Q=uB D p w:=⟨_,rfl⟩
 have aio:Hid (¬X→∀ w',Q (.returned (.tuple #[.slice none 0 0,.int .i64 12,.string ⟨#[]⟩])) w'):=ae (by rw[hQ];exact fun hx w'=>⟨none,0,0,12,⟨#[]⟩,rfl,.inr (.inl ⟨rfl,rfl,fun h=>hx (hX.2 h)⟩)⟩)
 have aeW:Hid (¬Z→R.2.1=0→∀ A c w',R.1.length≤c→iY w' (fun q=>w.heap.size≤q∧q<w'.heap.size) A R.1→Q (.returned (.tuple #[.slice A R.1.length c,.int .i64 0,.string ⟨#[]⟩])) w'):=ae (by rw[hQ,hR];exact fun hz h0 A c w' h1 h2=>⟨A,_,c,0,⟨#[]⟩,rfl,.inl ⟨rfl,fun h=>hz (hZ.2 h),h0,rfl,h1,h2⟩⟩)
 have aeX:Hid (¬Z→R.2.1≠0→∀ w',Q (.returned (.tuple #[.slice none 0 0,.int .i64 R.2.1,.string R.2.2])) w'):=ae (by rw[hQ,hR];exact fun hz h0 w'=>⟨none,0,0,_,_,rfl,.inr (.inr ⟨h0,rfl,fun h=>hz (hZ.2 h),rfl,rfl⟩)⟩)
 rw[←hQ]
 clear hA hB hE hlow V3 hp edn hok hR hQ
 obtain⟨w1,dZ⟩:∃ w1,w1=w.alloc (.cells (P.bx p a) 27):=⟨_,rfl⟩
 have hb1:Below w.heap.size w w1:=by rw[dZ];exact (aG _ _).alloc (aF _) _
 have hx1:w1.heap[w.heap.size]?=some (.cells (P.bx p a) 27 (0,0)):=by rw[dZ];exact aH w _
 have jJ:=ae hx1
 have HB1:=ae hb1
 have HW1:=ae dZ
 have hs1:w.heap.size<w1.heap.size:=(aU.1 hx1).1
 have abI:Hid (∀ w',Below w.heap.size w w'→Calls Tryz.prog 17 #[p.val a] w' fun e w2=>(∃ s,e=.returned (.string s)∧(Z→s=⟨#[]⟩)∧(X→s.toList.isEmpty=false))∧Below w'.heap.size w' w2):=ae (fun w' hb=>(D6.o w' hb).mono fun e w2 h=>⟨by obtain⟨s,h1,h2,h3⟩:=h.1;exact⟨s,h1,fun hz=>h2 (hZ.1 hz),fun hx=>h3 (hX.1 hx)⟩,h.2⟩)
 have abJ:=ae (fun (hz:¬Z) w' (hb:Below w.heap.size w w')=>Xl.o (fun h=>hz (hZ.2 h)) w' hb)
 clear D6 Xl hZ hX dZ hb1 hx1
 simp only[P.bx,P.val] at jJ HW1 abI abJ ⊢
 generalize p.k=xk at *
 generalize p.nm=JH at *
 generalize p.ex.length=x1 at *
 generalize p.cols.length=x2 at *
 generalize p.left.length=x3 at *
 generalize p.right.length=x4 at *
 generalize p.ag.length=x5 at *
 generalize p.kids.length=x6 at *
 obtain⟨ea,ec,ca,cc,la,lc,ra,rc,ga,gc,ka,kc⟩:=a
 simp only at jJ HW1 abI abJ ⊢
 obtain⟨d0,d1,d2,d3,d4,d5,d6,d7,f0,f1,f2,f3,f4,f5,f6,f7⟩:=dO jJ.o
 go_enter Tryz.func8,Tryz.ntmps8
 go_upto_region 1 with (fail)
 rw[←HW1.o]
 go_wp2_with fail
 refine (HDF.o w1 HB1.o).mono ?_
 rintro e w2 ⟨rfl,hb2⟩
 rw[HOK.o]
 have hs2:=hb2.size
 have HB2:=ae (HB1.o.trans (hb2.mono HB1.o.size))
 have iI:=ae ((hb2.block w.heap.size hs1).trans jJ.o)
 clear hb2 d0 d1 d2 d3 d4 d5 d6 d7 f0 f1 f2 f3 f4 f5 f6 f7
 obtain⟨d0,d1,d2,d3,d4,d5,d6,d7,f0,f1,f2,f3,f4,f5,f6,f7⟩:=dO iI.o
 go_wp2_with fail
 refine (abI.o w2 HB2.o).mono ?_
 rintro e w3 ⟨⟨s,rfl,hs,hsx⟩,hb3⟩
 have hs3:=hb3.size
 have HB3:=ae (HB2.o.trans (hb3.mono HB2.o.size))
 have nO:=ae ((hb3.block w.heap.size (by omega)).trans iI.o)
 have HS:=ae hs
 have HSX:=ae hsx
 clear hb3 hs hsx d0 d1 d2 d3 d4 d5 d6 d7 f0 f1 f2 f3 f4 f5 f6 f7
 obtain⟨d0,d1,d2,d3,d4,d5,d6,d7,f0,f1,f2,f3,f4,f5,f6,f7⟩:=dO nO.o
 cases hse:s.toList.isEmpty
 rotate_left 1
 ·have BH:Hid (¬X):=ae (fun h=>by rw[HSX.o h] at hse;cases hse)
  clear HS HSX
  go_wp2_with fail
  go_ret3
  exact⟨aio.o BH.o _,HB3.o⟩
 ·clear HSX
  have hnz:¬Z:=fun h=>by
   rw[HS.o h] at hse
   exact absurd hse (by first|simp|(rw[show (⟨#[]⟩:ByteArray).toList.isEmpty=true from by first|rfl|kernel_rfl];simp))
  have HC:=ae (abJ.o hnz w3 HB3.o)
  go_upto_region 5 with (fail)
  go_wp2_with fail
  refine HC.o.mono ?_
  rintro e w4 ⟨⟨A,n,c,rfl,hr4⟩,hb4⟩
  have hs4:=hb4.size
  have HB4:=ae (HB3.o.trans (hb4.mono HB3.o.size))
  obtain⟨cl,wy,wn⟩:=R
  simp only at hr4 aeW aeX
  have HR4:=ae hr4
  obtain⟨w5,yx⟩:∃ w5,w5=w4.alloc (.cells #[.int .i64 wy,.string wn] 61):=⟨_,rfl⟩
  have Ue:=ae yx
  have abK:Hid (Below w4.heap.size w4 w5):=ae (by rw[yx];exact (aG _ _).alloc (aF _) _)
  have Qh:Hid (w5.heap[w4.heap.size]?=some (.cells #[.int .i64 wy,.string wn] 61 (0,0))):=ae (by rw[yx];exact aH w4 _)
  have jA:=ae (HB4.o.trans (abK.o.mono HB4.o.size))
  clear hb4 hr4 yx d0 d1 d2 d3 d4 d5 d6 d7 f0 f1 f2 f3 f4 f5 f6 f7
  obtain⟨⟨t0,t1⟩,_,_⟩:=cell2 Qh.o
  go_upto_region 6 with (fail)
  rw[←Ue.o]
  by_cases hwy:wy=0
  ·subst hwy
   obtain⟨y1,y2,y3⟩:=HR4.o rfl
   subst y1
   have HY:=ae y3
   clear y3
   go_wp2_with fail
   go_ret3
   exact⟨aeW.o hnz (by first|rfl|trivial) A c _ y2 ((HY.o.kept fun k hk=>abK.o.block k hk.2).mono fun q hq=>⟨aS HB3.o.size hq.1,aK hq.2 abK.o.size⟩),jA.o⟩
  ·have ah0:(wy != 0)=true:=by simpa using hwy
   go_upto_region 7 with (fail)
   go_region
   all_goals
    go_wp2_with fail
    go_ret3
    exact⟨aeX.o hnz hwy _,jA.o.drew⟩
theorem TG {D:List DM} (hD:∀ d∈D,jk d.cols=0) {nm:ByteArray} (h:(Gp D nm).2.1=0):jk (Gp D nm).1=0:=by
 unfold Gp at h ⊢
 split at h
 ·exact absurd h (by simp[kQ])
 ·rename_i hi
  rw[if_neg hi]
  obtain⟨i,x,h1,h2,_⟩:=JE D 0 (Int.not_lt.1 hi)
  show jk (D.getD (idx (DM.oM nm) D 0).toNat _).cols=0
  rw[h1,Int.toNat_natCast,Nat.zero_add,List.getD_eq_getElem?_getD,h2]
  exact hD x (aN h2)
theorem Iz (a:List C):∀ (l r:List C),(kS a l r).2.1=0→kS a l r=(a,0,⟨#[]⟩)
 | [],_,_=>by rw[kS];intro _ _ _ _ h;cases h
 | _::_,[],_=>by rw[kS];intro _ _ _ _ _ h;cases h
 | x::l,y::r,h=>by
   rw[kS] at h ⊢
   split at h
   ·rename_i hk
    rw[if_pos hk]
    exact Iz a l r h
   ·exact absurd h (by simp[kQ])
theorem TI {a b:List C} (h:(qy a b).2.1=0):qy a b=(a,0,⟨#[]⟩):=by
 unfold qy at h ⊢
 split at h
 ·rename_i hl
  rw[if_pos hl]
  exact Iz a a b h
 ·exact absurd h (by simp[kQ])
theorem PM {a b:List C} {l r:List ByteArray} (ha:gp [] a=0)(hb:gp [] b=0)(h:(qU a b l r).2.1=0):jk (qU a b l r).1=0:=by
 unfold qU at h ⊢
 split at h
 ·exact absurd h (by simp[kQ])
 ·rename_i h1
  rw[if_neg h1]
  split at h
  ·rename_i h2
   rw[if_pos h2]
   exact wu b a (nY b [] hb) ha h
  ·rename_i h2
   exact absurd h h2
theorem PN {D:List DM} (hD:∀ d∈D,jk d.cols=0) {k:Int} {nm:ByteArray} {ex:List E} {cols left right:List ByteArray} {ag:List Ag} {a b:List C} (hn:∀ x∈cols,nameB x=true)(hg:∀ g∈ag,nameB g.nm=true)(ha:k≠1→jk a=0)(hb:k=4→jk b=0)
 (h:(Lt D k nm ex cols left right ag a b).2.1=0):jk (Lt D k nm ex cols left right ag a b).1=0:=by
 unfold Lt at h ⊢
 split at h
 ·rename_i h1
  rw[if_pos h1]
  exact TG hD h
 ·rename_i h1
  rw[if_neg h1]
  have ha:=ha h1
  have har:=E8 ha
  have hal:=nY a [] har
  split at h
  ·rename_i h2
   rw[if_pos h2]
   exact ha
  ·rename_i h2
   rw[if_neg h2]
   split at h
   ·rename_i h3
    rw[if_pos h3]
    refine xx (fun e he=>WB (fun x hx=>(hal x hx).2) e he) _ [] (fun x hx=>hn x.1 (List.of_mem_zip hx).1) (by rw[gp]) h
   ·rename_i h3
    rw[if_neg h3]
    split at h
    ·rename_i h4
     rw[if_pos h4]
     exact PM har (E8 (hb h4)) h
    ·rename_i h4
     rw[if_neg h4]
     split at h
     ·rename_i h5
      rw[if_pos h5,TI h]
      exact ha
     ·rename_i h5
      rw[if_neg h5]
      split at h
      ·rename_i h7
       rw[if_pos h7]
       exact zQ hal hg _ [] (by rw[gp]) h
      ·rename_i h7
       rw[if_neg h7]
       exact ha
theorem Zf {l:List uZ} (h:badR l=none):∀ (i:Nat)(r:uZ),l[i]?=some r→r.2.1=0:=by
 induction l with
 | nil=>intro i r hr;simp at hr
 | cons x l ih =>
   rw[badR] at h
   split at h
   ·rename_i h0
    intro i r hr
    cases i with
    | zero=>obtain rfl:x=r:=by simpa using hr
            exact h0
    | succ i=>exact ih h i r (by simpa using hr)
   ·cases h
theorem WC {l:List uZ} {r:Int×ByteArray} (h:badR l=some r):r.1≠0:=by
 induction l with
 | nil=>cases h
 | cons x l ih =>
   rw[badR] at h
   split at h
   ·exact ih h
   ·rename_i h0
    obtain rfl:=aY h
    exact h0
theorem PO {D:List DM} (hD:∀ d∈D,jk d.cols=0):∀ p,jS p→(gK D p).2.1=0→jk (gK D p).1=0:=P.ind fun k nm ex cols left right ag kids ih hg h=>by
 obtain⟨_,_,_,_,_,_,_,_,h1,h7,hm,hx,h3,hc,hn,hga,hkn,hs,ll,lr,le,la,hk⟩:=hg
 rw[gK,pW,BP] at h ⊢
 split at h
 ·rename_i r hr
  exact absurd h (WC hr)
 ·rename_i hr
  have afd:∀ i,i<kids.length→jk (wZ (kids.map (gK D)) i)=0:=fun i hi=>by
   have he:(kids.map (gK D))[i]?=some (gK D kids[i]):=by rw[bP,aO hi];rfl
   unfold wZ
   rw[List.getD_eq_getElem?_getD,he]
   exact ih _ (List.getElem_mem hi) (hk _ (List.getElem_mem hi)) (Zf hr i _ he)
  refine PN hD hn hga (fun hk1=>afd 0 ?_) (fun hk4=>afd 1 ?_) h
  ·rw[hkn];unfold dY;repeat' split
   all_goals omega
  ·rw[hkn,hk4];decide
def WI:ByteArray:=⟨#[40,116,97,98,108,101,32,116,41]⟩
def WJ:ByteArray:=⟨#[40,103,114,111,117,112,32,40,97,41,32,40,97,32,99,111,117,110,116,41,32,40,116,97,98,108,101,32,116,41,41]⟩
def acu:ByteArray:=⟨#[116,97,98,108,101]⟩
def acv:ByteArray:=⟨#[103,114,111,117,112]⟩
def PS:ByteArray:=⟨#[99,111,117,110,116]⟩
def BZ (i j k:Int):T:=.mk 1 ⟨#[]⟩ 0 [.mk 2 acu 0 [] i,.mk 2 ⟨#[116]⟩ 0 [] j] k
def Cb:T:=.mk 1 ⟨#[]⟩ 0 [.mk 2 acv 0 [] 1,.mk 1 ⟨#[]⟩ 0 [.mk 2 ⟨#[97]⟩ 0 [] 8] 7,.mk 1 ⟨#[]⟩ 0 [.mk 2 ⟨#[97]⟩ 0 [] 12,.mk 2 PS 0 [] 14] 11,BZ 22 28 21] 0
def o7:P:=.mk 1 ⟨#[116]⟩ [] [] [] [] [] []
def qJ:P:=.mk 7 ⟨#[]⟩ [] [] [⟨#[97]⟩] [] [⟨⟨#[97]⟩,PS,⟨#[]⟩⟩] [o7]
theorem Zk:YR WI=some (some (BZ 1 7 0)):=by kernel_rfl
theorem Zl:YR WJ=some (some Cb):=by kernel_rfl
theorem Fh (i j k:Int):jK (BZ i j k)=1:=by kernel_rfl
theorem Fj:jK Cb=7:=by kernel_rfl
theorem QK (i j k:Int):sH (BZ i j k):=.mk _ (by rw[Fh];decide) (by rw[Fh];exact .inl ⟨rfl,by kernel_rfl⟩) (fun x hx=>by
 rw[Fh] at hx
 have e:(BZ i j k).kids.drop ((BZ i j k).kids.length-dY 1)=[]:=by kernel_rfl
 rw[e] at hx
 cases hx)
theorem Zm:sH Cb:=.mk _ (by rw[Fj];decide) (by
 rw[Fj]
 refine .inr ⟨rfl,fun e he=>?_,fun e he=>?_⟩
 ·have h:((Cb.kids.getD 1 dW).kids)=[.mk 2 ⟨#[97]⟩ 0 [] 8]:=by kernel_rfl
  rw[h] at he
  obtain rfl:=df.1 he
  show nameB (⟨#[97]⟩:ByteArray)=true
  kernel_rfl
 ·have h:fV Cb.kids 2=[.mk 1 ⟨#[]⟩ 0 [.mk 2 ⟨#[97]⟩ 0 [] 12,.mk 2 PS 0 [] 14] 11]:=by kernel_rfl
  rw[h] at he
  obtain rfl:=df.1 he
  exact⟨_,_,rfl,rfl,rfl,by kernel_rfl,by kernel_rfl⟩) (fun x hx=>by
 rw[Fj] at hx
 have e:Cb.kids.drop (Cb.kids.length-dY 7)=[BZ 22 28 21]:=by kernel_rfl
 rw[e] at hx
 obtain rfl:=df.1 hx
 exact QK _ _ _)
theorem WL (i j k:Int):fU (BZ i j k) (0,0)=(o7,0,0):=by kernel_rfl
theorem WM:fU Cb (0,0)=(qJ,0,0):=by kernel_rfl
theorem acw:mY (uN o7)=(o7,0,0):=by kernel_rfl
theorem acx:mY (uN qJ)=(qJ,0,0):=by kernel_rfl
theorem WN:(uN o7).size≤600∧(uN o7).toList.isEmpty=false:=by
 have e:(uN o7).size=9:=by kernel_rfl
 exact⟨by rw[e];decide,by kernel_rfl⟩
theorem WO:(uN qJ).size≤600∧(uN qJ).toList.isEmpty=false:=by
 have e:(uN qJ).size=31:=by kernel_rfl
 exact⟨by rw[e];decide,by kernel_rfl⟩
theorem WQ:o7≠gq:=fun h=>by have:=congrArg P.k h;exact absurd this (by decide)
theorem WR:qJ≠gq:=fun h=>by have:=congrArg P.k h;exact absurd this (by decide)
end Go.Proofs.YtjhkihkiebnpaaaGreatDoor
namespace Go.Proofs.YtjhkihkiebnpaaaGreatDoor
open Go.ChangeShapes Go.WideShapes Go.ChangeAt Go.RowKit
theorem Xa:Tryz.prog.globalNamed "strconv.ErrRange"=some 3:=by kernel_rfl
theorem QM:Tryz.prog.globalNamed "strconv.ErrSyntax"=some 2:=by kernel_rfl
theorem P5:(Tryz.prog.globals[3]?).map (·.type)=some 163:=by kernel_rfl
theorem Nc:(Tryz.prog.globals[2]?).map (·.type)=some 163:=by kernel_rfl
theorem Nh {H:Type} {enc:TypeId×Value→H} {P:Program} {w:World} {base:Nat} {sp:Nat→Bool} {held:Bool} {fuel:Nat} {t:TypeId} {cs:List Value} {d:DataW H} {p:List MemPlace} {ms}
 (hu:P.underlying t=some (.interface ms))(h:DataW.trod enc P w base sp held fuel t cs=some (d,p)):∃ u,cs=[u]∧(u=.nilIface∨∃ te pe,u=.iface te pe):=by
 cases fuel with
 | zero=>simp[DataW.trod] at h
 | succ f =>
   unfold DataW.trod at h
   split at h <;> first|exact⟨_,rfl,.inl rfl⟩|exact⟨_,rfl,.inr ⟨_,_,rfl⟩⟩|simp_all
theorem Xb {W:World} {n:String} {g:Nat} {cs:Array Value} (hg:Tryz.prog.globalNamed n=some g)(h:W.var? Tryz.prog n=some cs):g<W.heap.size∧∀ (i:Nat) v,cs[i]?=some v→W.cell? ⟨g,i,none⟩=some v:=by
 unfold World.var? at h
 rw[hg] at h
 simp only[Option.bind_some] at h
 split at h
 ·rename_i c t fr hc
  obtain rfl:=aY h
  refine⟨(aU.1 hc).1,fun i v hv=>?_⟩
  unfold World.cell?
  rw[hc]
  simpa using hv
 ·cases h
theorem Xc {W:World} (h:laidMetH Tryz.prog Rows.planBackRow.laid W):Errs W:=by
 have h:laidMet Tryz.prog [("math/bits.deBruijn32tab",Rows.laid_math_bits_deBruijn32tab),("math/bits.deBruijn64tab",Rows.laid_math_bits_deBruijn64tab),("internal/strconv.uint64pow10",Rows.laid_internal_strconv_uint64pow10),("strconv.ErrRange",Rows.laid_strconv_ErrRange),("strconv.ErrSyntax",Rows.laid_strconv_ErrSyntax)] W:=h
 obtain⟨ps,⟨_,_,_,_,_,q1,_,_,_,_,h1,_⟩,_⟩:=h
 obtain⟨_,_,_,_,_,q2,_,_,_,_,h2,_⟩:=h1
 obtain⟨_,_,_,_,_,q,_,_,_,_,h3,_⟩:=h2
 obtain⟨g3,t3,cs3,amQ,p3,q3,hg3,ht3,afH,hd3,h4,_⟩:=h3
 obtain⟨g4,t4,cs4,amR,p4,q4,hg4,ht4,afI,hd4,_,_⟩:=h4
 obtain rfl:=aY (Xa.symm.trans hg3)
 obtain rfl:=aY (P5.symm.trans ht3)
 obtain rfl:=aY (QM.symm.trans hg4)
 obtain rfl:=aY (Nc.symm.trans ht4)
 have hr:=Xb Xa afH
 have hs:=Xb QM afI
 obtain⟨u3,hu3,ho3⟩:=Nh Tryz.underlying163 hd3
 obtain⟨u4,hu4,vJ⟩:=Nh Tryz.underlying163 hd4
 exact⟨⟨hs.1,u4,hs.2 0 u4 (by rw[←Array.getElem?_toList,hu4];rfl),vJ⟩,⟨hr.1,u3,hr.2 0 u3 (by rw[←Array.getElem?_toList,hu3];rfl),ho3⟩⟩
theorem ajZ:Tryz.prog.globalNamed "internal/strconv.uint64pow10"=some 0:=by kernel_rfl
theorem Xd:(Tryz.prog.globals[0]?).map (·.type)=some 215:=by kernel_rfl
theorem Xe:Tryz.prog.cellsOf 215=20:=by kernel_rfl
theorem Xf:Tryz.prog.cellsOf 178=1:=by kernel_rfl
theorem ZA:(Rows.laid_internal_strconv_uint64pow10:DataW Unit)=Lib.tabData .u64 Lib.pow10Tab:=by kernel_rfl
theorem table {W:World} (h:laidMetH Tryz.prog Rows.planBackRow.laid W):Lib.TabIs Tryz.prog W "internal/strconv.uint64pow10" .u64 Lib.pow10Tab:=by
 have h:laidMet Tryz.prog [("math/bits.deBruijn32tab",Rows.laid_math_bits_deBruijn32tab),("math/bits.deBruijn64tab",Rows.laid_math_bits_deBruijn64tab),("internal/strconv.uint64pow10",Rows.laid_internal_strconv_uint64pow10),("strconv.ErrRange",Rows.laid_strconv_ErrRange),("strconv.ErrSyntax",Rows.laid_strconv_ErrSyntax)] W:=h
 obtain⟨ps,⟨_,_,_,_,_,q1,_,_,_,_,h1,_⟩,_⟩:=h
 obtain⟨_,_,_,_,_,q2,_,_,_,_,h2,_⟩:=h1
 obtain⟨g',t',cs,fuel,p,q,hg',ht',hvar,hd,_,_⟩:=h2
 obtain rfl:=aY (ajZ.symm.trans hg')
 obtain rfl:=aY (Xd.symm.trans ht')
 rw[ZA] at hd
 unfold Lib.TabIs
 rw[hvar,←Lib.cells_of_tab Tryz.underlying215 Tryz.underlying178 Xf Xe hd]
theorem ZB {W:World} (h:laidMetH Tryz.prog Rows.planBackRow.laid W):Env W:=⟨Xc h,fun w' hw=>Lib.tabBelow_of_tabIs (table h) w' hw⟩
def wE {H:Type}:DataW H→List Value
 | .agg parts=>parts.map fun d=>match d with|.lit (.int k n)=>Value.int k n|_=>undef
 | _=>[]
def setBlock (w:World)(g:Nat)(cs:Array Value):World:={ w with heap:=w.heap.modify g fun
 | .cells _ t frozen=>.cells cs t frozen
 | o=>o }
def textOf {H:Type}:DataW H→ByteArray
 | .iface _ (.ptr (.agg [.lit (.string l)]))=>⟨l.toArray⟩
 | _=>⟨#[]⟩
def Xg (w:World)(g:Nat)(s:ByteArray):World :=
 let w1:World:={ w with heap:=w.heap.push (.cells #[.string s] 237 (0,0)) }
 setBlock w1 g #[.iface 235 (.pointer (some ⟨w.heap.size,0,none⟩))]
noncomputable def laidWorld (os:Os):World :=
 Xg (Xg (setBlock (setBlock (setBlock (World.holding Tryz.prog os ⟨#[],#[],[]⟩) 4 (wE (H:=Unit) Rows.laid_math_bits_deBruijn32tab).toArray) 5 (wE (H:=Unit) Rows.laid_math_bits_deBruijn64tab).toArray) 0 (wE (H:=Unit) Rows.laid_internal_strconv_uint64pow10).toArray)
  3 (textOf (H:=Unit) Rows.laid_strconv_ErrRange)) 2 (textOf (H:=Unit) Rows.laid_strconv_ErrSyntax)
end Go.Proofs.YtjhkihkiebnpaaaGreatDoor
namespace Go.Proofs.YtjhkihkiebnpaaaGreatDoor.checkJoins
open Go.ChangeShapes Go.WideShapes Go.ChangeAt Go.RowKit
theorem afJ {a b:Bool} (ha:a=true)(hb:b=true):(a&&b)=true:=by rw[ha,hb];rfl
theorem joined:joinedFacts Tryz.pinned.checked.prog 4 Tryz.f4 (OpenSpec.ofChange Rows.checkJoinsSpec).bare Rows.checkJoinsRow=true:=by
 unfold joinedFacts
 repeat' with_reducible apply afJ
 all_goals (as_aux_lemma=>kernel_rfl)
theorem named:Tryz.pinned.checked.prog.funcNamed "confluence/confluencelaw10.CheckJoins"=some 4:=by kernel_rfl
theorem inst:Tryz.f4.isInstance Tryz.pinned.checked.prog Rows.checkJoinsRow.origin Rows.checkJoinsRow.targs:=of_decide_eq_true (by kernel_rfl)
theorem wrap:Tryz.f4.isWrapper Tryz.pinned.checked.prog Rows.checkJoinsRow.wrapper Rows.checkJoinsRow.mainSum:=by unfold Func.isWrapper;first|(rw[if_pos (by decide +kernel)];kernel_rfl)|(rw[if_neg (by decide +kernel)];exact⟨rfl,rfl⟩)
end Go.Proofs.YtjhkihkiebnpaaaGreatDoor.checkJoins
