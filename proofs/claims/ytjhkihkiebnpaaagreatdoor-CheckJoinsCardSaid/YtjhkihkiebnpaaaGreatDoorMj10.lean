/-
  Package plan: tree.
-/
import Derived.Test.YtjhkihkiebnpaaaGreatDoorMj0
import Derived.Test.YtjhkihkiebnpaaaGreatDoorMj5
import Derived.Test.YtjhkihkiebnpaaaGreatDoorMj1
set_option linter.unusedVariables false
set_option linter.unusedSimpArgs false
set_option maxRecDepth 100000
set_option maxHeartbeats 40000000
namespace Go.Proofs.YtjhkihkiebnpaaaGreatDoor
open Go.RowKit
inductive Ee:P→Prop
 | mk (k:Int)(nm:ByteArray)(ex:List E)(cols left right:List ByteArray)(ag:List Ag)(kids:List P)(l1:ex.length≤600)(l2:cols.length≤600)(l3:left.length≤600)(l4:right.length≤600)(l5:ag.length≤600)(l6:kids.length≤600)(h:∀ p∈kids,Ee p):Ee (.mk k nm ex cols left right ag kids)
def I9 (p:P):Prop:=BN p→Ee p→∀ (a:PA)(w:World),kY w (fun k=>k<w.heap.size) p a→Calls Tryz.prog 32 #[p.val a] w (pF w (fD p))
theorem AO {x:T} {A:Option Addr} {c:Nat} {w:World} {S:Nat→Prop} (hc:x.kids.length≤c)(hX:mQ w S A x.kids):∀ p∈[((x,A,c):TP)],p.1.kids.length≤p.2.2∧mQ w S p.2.1 p.1.kids:=fun p hp=>by
 rw[df.1 hp]
 exact⟨hc,hX⟩
theorem XT {w0 w3 w5:World} {s:ByteArray} (hb:Below w0.heap.size w0 w3)(h5:Below (w3.alloc (.cells #[.int .i64 2,.string s,.int .i64 0,.slice none 0 0,.int .i64 0] 71)).heap.size (w3.alloc (.cells #[.int .i64 2,.string s,.int .i64 0,.slice none 0 0,.int .i64 0] 71)) w5) :
 Ub w0 w5.heap.size w3.heap.size (.slice (some ⟨w3.heap.size,0,none⟩) 1 1) [((.mk 2 s 0 [] 0:T),none,0)] (w5.alloc (.cells #[.int .i64 1,.string ⟨#[]⟩,.int .i64 0,.slice (some ⟨w3.heap.size,0,none⟩) 1 1,.int .i64 0] 71)):=by
 have hs5:=h5.size
 have h3:w3.heap.size<w5.heap.size:=by
  have:(w3.alloc (.cells #[.int .i64 2,.string s,.int .i64 0,.slice none 0 0,.int .i64 0] 71)).heap.size=w3.heap.size+1:=by simp
  omega
 have hs0:=hb.size
 have hbl:(w5.alloc (.cells #[.int .i64 1,.string ⟨#[]⟩,.int .i64 0,.slice (some ⟨w3.heap.size,0,none⟩) 1 1,.int .i64 0] 71)).heap[w3.heap.size]?=some (.cells #[.int .i64 2,.string s,.int .i64 0,.slice none 0 0,.int .i64 0] 71 (0,0)) :=
  (aP w5 _ _ h3).trans ((h5.block _ (by simp)).trans (aH w3 _))
 refine⟨aH w5 _,⟨rfl,.inr ⟨w3.heap.size,1,_,rfl,aF _,hbl,aF _,by decide,rfl,rfl⟩⟩,rX s _ _,by simp[Value.ownBlock];omega,?_,by omega,hs0⟩
 exact ((hb.trans ((dV w3 _ _).mono hs0)).trans (h5.mono (by simp;omega))).alloc (by omega) _
theorem zx {ps:List TP} {L:List T} {j:Nat} (h:ps.map Prod.fst=L)(hL:L.length=j):ps.length=j:=by rw[←hL,←h,bM]
theorem XU {α:Type} (f:α→T)(x:T) {l:List α} {n j:Nat} (h:n=l.length)(hj:j≤n):(x::(l.take j).map f).length=j+1:=by
 rw[bf,bM,List.length_take]
 omega
theorem UY {α:Type} (f:α→T)(x:T) {l:List α} {j:Nat} {y:α} (h:l[j]?=some y):x::(l.take (j+1)).map f=(x::(l.take j).map f)++[f y]:=by rw[take_snoc h,List.map_append];rfl
theorem XV {α:Type} (f:α→T)(x:T) {l:List α} {n j:Nat} (h:n=l.length)(hn:¬j<n):x::(l.take j).map f=x::l.map f:=by rw[bJ (by omega)]
theorem RI {w:World} {s0 s1 s2 s3 s4 s5 s6 s7:Value} {k:Int} {g:Nat} {t:TypeId} (hb:w.heap[g]?=some (.cells #[.string ⟨#[]⟩,.string ⟨mi.toArray⟩,.string ⟨kT.toArray⟩,.string ⟨jR.toArray⟩,.string ⟨oV.toArray⟩,.string ⟨nG.toArray⟩,.string ⟨jh.toArray⟩,.string ⟨kZ.toArray⟩] t (0,0)))(h1:1≤k)(h7:k≤7) :
 w.cell? ⟨g,k.toNat,none⟩=some (.string ⟨(qW k).toArray⟩):=by
 obtain rfl|rfl|rfl|rfl|rfl|rfl|rfl:k=1∨k=2∨k=3∨k=4∨k=5∨k=6∨k=7:=by omega
 all_goals (simp[World.cell?,hb];rfl)
theorem adI {n:Nat} (h:n≤2000):n+2≤maxLen:=by unfold maxLen;omega
theorem Ef {n:Nat} (h:n≤2000):n+1≤maxLen:=by unfold maxLen;omega
theorem aaD {n:Nat} (h:n≤2000):(n+2)*64≤140737488355328:=by omega
theorem xR {n:Nat} (h:n≤2000):(n+1)*64≤140737488355328:=by omega
theorem adJ {n j m:Nat} (h:n=j+1)(hj:j≤m)(hm:m≤600):n≤2000:=by omega
theorem su {A:Option Addr} {c n:Nat} {l:List ByteArray} {w:World} (hn:n=l.length)(hl:n≤600)(h:Lies w (fun k=>k<w.heap.size) A (strs l)):Calls Tryz.prog 68 #[.slice A n c] w (pF w (iO l)):=by
 subst hn
 exact UX l hl A c w h
theorem UZ {x y:T} {A B:Option Addr} {c d:Nat} {w:World} {S:Nat→Prop} (hc:x.kids.length≤c)(hX:mQ w S A x.kids)(hd:y.kids.length≤d)(hY:mQ w S B y.kids):∀ p∈[((x,A,c):TP),(y,B,d)],p.1.kids.length≤p.2.2∧mQ w S p.2.1 p.1.kids:=fun p hp=>by
 rcases bZ.1 hp with rfl|hp
 ·exact⟨hc,hX⟩
 ·rw[df.1 hp]
  exact⟨hd,hY⟩
theorem zy {cols:List ByteArray} {ex:List E} (h:cols.length≤ex.length):(rZ cols ex).length=cols.length:=by
 unfold rZ
 rw[List.length_zipWith]
 omega
theorem XW {x:T} {cols:List ByteArray} {ex:List E} {cl el j:Nat} (h1:cl=cols.length)(h2:el=ex.length)(h:cl≤el)(hj:j≤cl):(x::(rZ cols ex).take j).length=j+1:=by
 rw[bf,List.length_take,zy (by omega)]
 omega
theorem U0 (x:T) {cols:List ByteArray} {ex:List E} {j:Nat} {c:ByteArray} {e:E} (hc:cols[j]?=some c)(he:ex[j]?=some e):x::(rZ cols ex).take (j+1)=(x::(rZ cols ex).take j)++[.mk 1 ⟨#[]⟩ 0 [.mk 2 c 0 [] 0,iy e] 0]:=by
 rw[take_snoc (x:=KO c e) (by unfold rZ;rw[List.getElem?_zipWith,hc,he])]
 rfl
theorem XX {wk:ByteArray} {cols:List ByteArray} {ex:List E} {cl el j:Nat} (h1:cl=cols.length)(h2:el=ex.length)(h:cl≤el)(hn:¬j<cl):(T.mk 2 wk 0 [] 0::(rZ cols ex).take j)=.mk 2 wk 0 [] 0::rZ cols ex:=by
 rw[bJ (by rw[zy (by omega)];omega)]
theorem XY {X Y:TP} {q sz:Nat} {wb wq w6:World} {t:TypeId} (hq:wq.heap[q]?=some (.cells #[.int .i64 X.1.k,.string X.1.s,.int .i64 X.1.n,.slice X.2.1 X.1.kids.length X.2.2,.int .i64 X.1.at_,.int .i64 Y.1.k,.string Y.1.s,.int .i64 Y.1.n,.slice Y.2.1 Y.1.kids.length Y.2.2,.int .i64 Y.1.at_] t (0,0)))
 (h6:w6.heap[q]?=wq.heap[q]?)(hlt:q<w6.heap.size)(hsz:sz≤q)(hX:∀ p∈[X],p.1.kids.length≤p.2.2∧mQ wb (fun k=>sz≤k∧k<wb.heap.size) p.2.1 p.1.kids)(hcY:Y.1.kids.length≤Y.2.2)(hY:mQ wb (fun k=>sz≤k∧k<wb.heap.size) Y.2.1 Y.1.kids)(hb:Below wb.heap.size wb w6) :
 mQ w6 (fun k=>sz≤k∧k<w6.heap.size) (some ⟨q,0,none⟩) [X.1,Y.1]:=by
 have hs:=hb.size
 have hk:∀ {A l},mQ wb (fun k=>sz≤k∧k<wb.heap.size) A l→mQ w6 (fun k=>sz≤k∧k<w6.heap.size) A l:=fun h=>(h.kept fun k hk=>hb.block k hk.2).mono fun k hk=>⟨hk.1,by have:=hk.2;omega⟩
 obtain⟨hcX,hX⟩:=hX X (df.2 rfl)
 have hown:w6.ownsRow q t 5 (.slice (some ⟨q,0,none⟩) 2 2) ([X,Y]:List TP).length (ed [X,Y]):=⟨rfl,.inr ⟨q,2,_,rfl,aF _,h6.trans hq,aF _,by decide,rfl,rfl⟩⟩
 obtain⟨A,c,e,_,h⟩:=rP hown (by simp) (S:=fun k=>sz≤k∧k<w6.heap.size) (fun k k1 k2=>⟨by omega,k2⟩) (UZ (x:=X.1) (A:=X.2.1) (c:=X.2.2) (y:=Y.1) (B:=Y.2.1) (d:=Y.2.2) hcX (hk hX) hcY (hk hY))
 obtain rfl:A=some ⟨q,0,none⟩:=by injection e with e;exact e.symm
 exact h
theorem KU {α:Type} (f:α→T)(L:List T) {l:List α} {j:Nat} {y:α} (h:l[j]?=some y):L++(l.take (j+1)).map f=(L++(l.take j).map f)++[f y]:=by rw[take_snoc h,List.map_append,List.append_assoc];rfl
theorem Qm {α:Type} {f:α→T} {ps:List TP} {L L':List T} {l:List α} {n j k:Nat} (h:ps.map Prod.fst=L)(hL:L=L'++(l.take j).map f)(hk:L'.length≤k)(hn:n=l.length)(hj:j≤n)(h6:n≤600)(hk6:k≤602:=by decide):ps.length≤2000:=by
 have:=congrArg List.length h
 rw[bM,hL,aZ,bM,List.length_take] at this
 omega
theorem AP (l:List Ag):∀ (i:Nat)(v:Ag),l[i]?=some v→∀ j u,(Ag.cs v)[j]?=some u→(jd l)[i*3+j]?=some u:=by
 induction l with
 | nil=>intro i v h;simp at h
 | cons x l ih =>
   intro i v h j u hj
   have e:jd (x::l)=Ag.cs x++jd l:=rfl
   have hl:∀ y:Ag,(Ag.cs y).length=3:=fun _=>rfl
   have hj3:j<3:=by have:=(aV.1 hj).1;rw[hl] at this;exact this
   rw[e]
   cases i with
   | zero =>
     obtain rfl:x=v:=by simpa using h
     rw[Nat.zero_mul,Nat.zero_add,List.getElem?_append_left (by rw[hl];exact hj3)]
     exact hj
   | succ i =>
     rw[bK (by rw[hl];omega),hl,show (i+1)*3+j-3=i*3+j by omega]
     exact ih i v (by simpa using h) j u hj
theorem XZ {w:World} {S:Nat→Prop} {A:Option Addr} {l:List Ag} (h:Lies w S A (jd l)) {j:Nat} {x:Ag} (hx:l[j]?=some x) :
 ∃ b o,A=some ⟨b,o,none⟩∧S b∧w.cell? ⟨b,o+j*3,none⟩=some (.string x.nm)∧w.cell? ⟨b,o+j*3+1,none⟩=some (.string x.fn)∧w.cell? ⟨b,o+j*3+2,none⟩=some (.string x.xH):=by
 rcases h with h|⟨b,o,hA,hb,hc⟩
 ·have:=GV l
  rw[h] at this
  have hl:l=[]:=bF (by simp at this;omega)
  subst hl
  simp at hx
 ·have h0:=hc _ _ (AP l j x hx 0 _ rfl)
  have h1:=hc _ _ (AP l j x hx 1 _ rfl)
  have h2:=hc _ _ (AP l j x hx 2 _ rfl)
  exact⟨b,o,hA,hb,h0,h1,h2⟩
theorem aaE {an af ac:ByteArray} (h:af.toList=[99,111,117,110,116]):uH ⟨an,af,ac⟩=[an,af]:=by
 exact if_pos h
theorem aaF {an af ac:ByteArray} (h:¬af.toList=[99,111,117,110,116]):uH ⟨an,af,ac⟩=[an,af,ac]:=by
 exact if_neg h
theorem RN {w:World} {base:Nat} {e:TypeId} {z b c n:Nat} {vs:List Value} (h:w.ownsRow base e z (.slice (some ⟨b,0,none⟩) n c) n vs):Lies w.drew (fun k=>k<w.drew.heap.size) (some ⟨b,0,none⟩) vs:=by
 obtain⟨A,c',e,_,hL⟩:=oH h (S:=fun k=>k<w.heap.size) (fun k h1 h2=>h2)
 obtain rfl:some ⟨b,0,none⟩=A:=by injection e with e
 exact hL.kept (w':=w.drew) (fun _ _=>rfl)
theorem RP {w:World} {S:Nat→Prop} {A:Option Addr} {vs:List Value} (h:Lies w S A vs):Lies w.drew S A vs:=h.kept (w':=w.drew) (fun _ _=>rfl)
theorem aaG {w:World} {base:Nat} {e:TypeId} {z b c n:Nat} {vs:List Value} (h:w.ownsRow base e z (.slice (some ⟨b,0,none⟩) n c) n vs):base≤w.heap.size:=by
 have:=h.lt b rfl
 omega
theorem U1 {k:Int} {nm:ByteArray} {ex:List E} {cols left right:List ByteArray} {ag:List Ag} {el cl gl:Nat} (h1:el=ex.length)(h2:cl=cols.length)(h5:gl=ag.length)(l1:el≤600)(l2:cl≤600)(l5:gl≤600)(hc:cl≤el):(mF k nm ex cols left right ag).length≤601:=by
 unfold mF
 repeat' split
 all_goals first
  | (rw[zy (by omega)];omega)
  | (simp only[bf,bM,List.length_nil];omega)
theorem Ja {w w1 wr:World} {A:Option Addr} {c p:Nat} {L:List T} {x0 x1 x2 x3 x4:Value} (hb:Below w.heap.size w w1)(hr:Below w1.heap.size w1 wr)(hc:L.length≤c)(hX:mQ wr (fun k=>w1.heap.size≤k∧k<wr.heap.size) A L)(hp:w.heap.size≤p)(hp1:p<w1.heap.size)
 (hx:x0=.int .i64 1∧x1=.string ⟨#[]⟩∧x2=.int .i64 0∧x3=.slice A L.length c∧x4=.int .i64 0):pF w (jM L) (.returned (.agg #[x0,x1,x2,x3,x4])) (J4 wr p x0 x1 x2 x3 x4):=by
 obtain⟨rfl,rfl,rfl,rfl,rfl⟩:=hx
 have hs:=hb.size
 refine⟨⟨A,c,rfl,hc,?_⟩,dS (hb.trans (hr.mono hs)) hp⟩
 exact (hX.kept (fun k hk=>nS (by have:=hk.1;omega))).mono (fun k hk=>⟨by have:=hk.1;omega,by rw[rQ];exact hk.2⟩)
theorem seven {k:Int} (h1:1≤k)(h7:k≤7):k=1∨k=2∨k=3∨k=4∨k=5∨k=6∨k=7:=by omega
theorem Oo (k:Int)(nm:ByteArray)(ex:List E)(cols left right:List ByteArray)(ag:List Ag)(kids:List P)(hM:∀ p∈kids,I9 p):I9 (.mk k nm ex cols left right ag kids):=by
 intro jY hfew a w hat
 obtain⟨_,_,_,_,_,_,_,_,hk1,hk7,hex,hcl,hmk⟩:=jY
 obtain⟨_,_,_,_,_,_,_,_,l1,l2,l3,l4,l5,l6,hfk⟩:=hfew
 obtain⟨⟨hE,hC,U2,hR,hG,_,_,_,_,_⟩,JK⟩:=hat
 obtain⟨ea,ec,ca,cc,la,lc,ra,rc,ga,gc,ka,kc⟩:=a
 have htp:fD (.mk k nm ex cols left right ag kids)=jM (.mk 2 ⟨(qW k).toArray⟩ 0 [] 0::(mF k nm ex cols left right ag++kK kids)):=by rw[fD,if_neg (by omega)];rfl
 rw[htp]
 simp only[P.val,P.k,P.nm,P.ex,P.cols,P.left,P.right,P.ag,P.kids] at hE hC U2 hR hG JK ⊢
 generalize hel:ex.length=el at *
 generalize hcl':cols.length=cl at *
 generalize hll:left.length=ll at *
 generalize hrl:right.length=rl at *
 generalize hgl:ag.length=gl at *
 generalize hkl:kids.length=kl at *
 obtain⟨wa,qx⟩:∃ wa,wa=w.alloc (.cells #[.int .i64 k,.string nm,.slice ea el ec,.slice ca cl cc,.slice la ll lc,.slice ra rl rc,.slice ga gl gc,.slice ka kl kc] 27):=⟨_,rfl⟩
 have hba:Below w.heap.size w wa:=by rw[qx];exact (aG _ _).alloc (aF _) _
 have hsa:wa.heap.size=w.heap.size+1:=by rw[qx];simp
 have hxa:wa.heap[w.heap.size]?=some (.cells #[.int .i64 k,.string nm,.slice ea el ec,.slice ca cl cc,.slice la ll lc,.slice ra rl rc,.slice ga gl gc,.slice ka kl kc] 27 (0,0)):=by rw[qx];exact aH w _
 obtain⟨w1,dZ⟩:∃ w1,w1=wa.alloc (.cells #[.int .i64 0,.string ⟨#[]⟩,.int .i64 0,.slice none 0 0,.int .i64 0] 71):=⟨_,rfl⟩
 have hb1:Below wa.heap.size wa w1:=by rw[dZ];exact (aG _ _).alloc (aF _) _
 have hs1':w1.heap.size=w.heap.size+1+1:=by rw[dZ];simp;omega
 have HR1:Hid (w1.heap[w.heap.size+1]?=some (.cells #[.int .i64 0,.string ⟨#[]⟩,.int .i64 0,.slice none 0 0,.int .i64 0] 71 (0,0))):=ae (by rw[dZ,←hsa];exact aH wa _)
 have Hw:Hid (w1.heap[w.heap.size]?=some (.cells #[.int .i64 k,.string nm,.slice ea el ec,.slice ca cl cc,.slice la ll lc,.slice ra rl rc,.slice ga gl gc,.slice ka kl kc] 27 (0,0))):=ae ((hb1.block _ (by omega)).trans hxa)
 have HB1:Hid (Below w.heap.size w w1):=ae (hba.trans (hb1.mono (by omega)))
 have HW1:=ae (show w1=(w.alloc (.cells #[.int .i64 k,.string nm,.slice ea el ec,.slice ca cl cc,.slice la ll lc,.slice ra rl rc,.slice ga gl gc,.slice ka kl kc] 27)).alloc (.cells #[.int .i64 0,.string ⟨#[]⟩,.int .i64 0,.slice none 0 0,.int .i64 0] 71) by rw[dZ,qx])
 have hs1:w.heap.size<w1.heap.size:=by omega
 have hs0:=hs1
 have hs2:w.heap.size+1<w1.heap.size:=by omega
 obtain⟨w2,AQ⟩:∃ w2,w2=w1.alloc (.cells #[.string ⟨#[]⟩,.string ⟨mi.toArray⟩,.string ⟨kT.toArray⟩,.string ⟨jR.toArray⟩,.string ⟨oV.toArray⟩,.string ⟨nG.toArray⟩,.string ⟨jh.toArray⟩,.string ⟨kZ.toArray⟩] 9):=⟨_,rfl⟩
 have hb2:Below w1.heap.size w1 w2:=by rw[AQ];exact (aG _ _).alloc (aF _) _
 have hwc:=ae (RI (k:=k) (s0:=undef) (s1:=undef) (s2:=undef) (s3:=undef) (s4:=undef) (s5:=undef) (s6:=undef) (s7:=undef) (show w2.heap[w1.heap.size]?=_ by rw[AQ];exact aH w1 _) hk1 hk7)
 have HB2:=ae hb2
 have HW2:=ae AQ
 have HP2:=ae ((hb2.block w.heap.size hs0).trans Hw.o)
 have n1:¬k<1:=by omega
 have n7:¬7<k:=by omega
 have n8:k<8:=by omega
 have n0:0≤k:=by omega
 have HEX:=ae hex
 have U3:=ae hel.symm
 have X0:=ae hcl'.symm
 have Nl:=ae hll.symm
 have HRL:=ae hrl.symm
 have Uc:=ae hgl.symm
 have ZK:=ae hkl.symm
 have HM:=ae hM
 have HMK:=ae hmk
 have HFK:=ae hfk
 have HE:=ae (hE.to fun k h=>h)
 have Xl:=ae hC
 have HLF:=ae U2
 have HRI:=ae hR
 have HG:=ae hG
 have Nu:=ae JK
 have Q5:=ae hcl
 obtain⟨i0,hi,hz0,hz1,hz2⟩:=info_parts pO
 clear qx hba hsa hxa dZ hb1 hs1' AQ hb2 htp hex hel hcl' hll hrl hgl hkl hM hmk hfk hE hC U2 hR hG JK hcl wa
 have hwa:=ae (fun s w=>KQ s w)
 have hwo:=ae (fun A n c w=>open_any A n c w)
 obtain⟨wk,hwk⟩:∃ wk,wk=(⟨(qW k).toArray⟩:ByteArray):=⟨_,rfl⟩
 rw[←hwk] at hwc ⊢
 obtain⟨kt,hkt⟩:∃ kt,k.toNat=kt:=⟨_,rfl⟩
 rw[hkt] at hwc
 have HWK:=ae hwk
 clear hwk
 go_enter Tryz.func32,Tryz.ntmps32
 go_upto_region 1 with (fail)
 rw[←HW1.o]
 go_upto_region 2 with (fail)
 simp only[mi,kT,jR,oV,nG,jh,kZ] at HW2
 rw[←HW2.o]
 obtain⟨d0,d1,d2,d3,d4,d5,d6,d7,_,_,_,_,_,_,_,_⟩:=dO HP2.o
 have hwc':=hwc.o
 go_wp2_with fail
 refine (hwa.o wk w2).mono ?_
 rintro e w3 ⟨rfl,hb3⟩
 have HB3:=ae (HB2.o.trans (hb3.mono HB2.o.size))
 clear hb3
 go_wp2_with fail
 refine (hwo.o _ 1 1 _).mono ?_
 rintro e w5 ⟨rfl,hb5⟩
 have HS:=ae (XT HB3.o hb5)
 have tV:Hid (w3.heap.size≤w5.heap.size):=ae (aS (dV w3 _ _).size hb5.size)
 have HP5:=ae ((((HB3.o.trans ((dV w3 _ _).mono HB3.o.size)).trans (hb5.mono (aS HB3.o.size (dV w3 _ _).size))).block w.heap.size hs0).trans Hw.o)
 clear hb5 d0 d1 d2 d3 d4 d5 d6 d7 hwc' hkt
 obtain⟨w8,ew8⟩:∃ w8,w8=w5.alloc (.cells #[.int .i64 1,.string ⟨#[]⟩,.int .i64 0,.slice (some ⟨w3.heap.size,0,none⟩) 1 1,.int .i64 0] 71):=⟨_,rfl⟩
 rw[←ew8] at HS
 have HW8:=ae ew8
 clear ew8
 have HP8:=ae ((HS.o.below.block w.heap.size hs0).trans Hw.o)
 go_upto_region 5 with (fail)
 rw[←HW8.o]
 obtain⟨d0,d1,d2,d3,d4,d5,d6,d7,_,_,_,_,_,_,_,_⟩:=dO HP8.o
 go_upto_block 0 with (fail)
 clear d0 d1 d2 d3 d4 d5 d6 d7
 go_cut [4] (fun s4 wx=>s4=.pointer (some ⟨w5.heap.size,0,none⟩)∧Xk w1 w5.heap.size w3.heap.size (.mk 2 wk 0 [] 0::mF k nm ex cols left right ag) wx)
 case first =>
  obtain rfl|rfl|rfl|rfl|rfl|rfl|rfl:k=1∨k=2∨k=3∨k=4∨k=5∨k=6∨k=7:=seven hk1 hk7
  ·obtain⟨v,ps,hK,hps⟩:Xk w1 w5.heap.size w3.heap.size [.mk 2 wk 0 [] 0] w8:=⟨_,_,HS.o,rfl⟩
   have HK:=ae hK
   have uK:=ae hps
   have KT:=ae (fun k (e:v.ownBlock=some k)=>(HK.o.own.lt k e).2)
   have gZ:=ae (HB1.o.trans (HK.o.below.mono (bV hs1)))
   have RQ:=ae ((HK.o.below.block w.heap.size hs0).trans Hw.o)
   clear hK hps
   have hpl:=ae (zx uK.o (j:=1) rfl)
   have hpl2:=ae (show ps.length≤2000 by rw[hpl.o];decide)
   obtain⟨d0,d1,d2,d3,d4,d5,d6,d7,_,_,_,_,_,_,_,_⟩:=dO RQ.o
   have g0:=(dN HK.o.box).1.2.2.2.1
   have jW:=ae (show Below w8.heap.size w8 w8.drew from (aG _ _).drew)
   have lG:=ae (hwa.o nm w8.drew)
   go_upto_region 7 with (fail)
   go_region_law (first
    | (refine step_append_lies _ rfl _ _ _ rfl w3.heap.size 71 i0 _ 5 64 Tryz.underlying69 hi hz0 hz1 hz2 rfl (by decide) _ _ _ rfl (nM.o.own.alloc _) ⟨w6.heap.size,0,none⟩ 1 1 (TP.cs ((.mk 2 nm 0 [] 0:T),none,0)) rfl rfl (bz (aH w6 _)) (by rw[←fB];exact fF _) (by decide) (Ef hpl2.o) (xR hpl2.o) Eg.o _ rfl ?_;intro g' cap w7 jo hgrow hat Gg
       have Gh:=ae jo
       have xu:Hid (w6.grownBy w7 v.ownBlock):=ae ((World.grownBy_alloc _ _ _).trans hgrow)
       have tX:Hid ((Value.slice (some ⟨g',0,none⟩) (ps.length+1) cap).ownBlock=v.ownBlock∨∃ n,(Value.slice (some ⟨g',0,none⟩) (ps.length+1) cap).ownBlock=some n∧w6.heap.size≤n):=ae (hat.imp (fun h=>h.symm) fun h=>⟨g',rfl,by rw[h];exact (dV w6 _ _).size⟩)
       have FP:=ae ((xu.o.block w5.heap.size nM.o.lt (fun e=>nM.o.CG e.symm)).trans nM.o.box)
       obtain⟨⟨p0,p1,p2,p3,p4⟩,q0,q1,q2,q3,q4⟩:=dN FP.o
       clear jo hgrow hat)
    | (go_simp;go_at_call 66;refine (lG.o).mono ?_;rintro e w6 ⟨rfl,hb6⟩
       have nM:=ae (HK.o.bel (jW.o.trans (hb6.mono jW.o.size)))
       have Eg:Hid (w3.heap.size≤(w6.alloc (.cells #[.int .i64 2,.string nm,.int .i64 0,.slice none 0 0,.int .i64 0] 71)).heap.size):=ae (aS (aS tV.o (bV nM.o.lt)) (dV w6 _ _).size)
       have g3:w6.cell? ⟨w5.heap.size,3,none⟩=some v:=(dN nM.o.box).1.2.2.2.1
       have Ua:(w6.alloc (.cells #[.int .i64 2,.string nm,.int .i64 0,.slice none 0 0,.int .i64 0] 71)).cell? ⟨w5.heap.size,3,none⟩=some v:=(World.cell?_alloc_some _ _ _ (by rw[g3];rfl)).trans g3
       clear hb6))
   all_goals
    go_wp2_with fail
    go_meet
    case rel=>exact⟨rfl,_,_,nM.o.step (xs:=[((.mk 2 nm 0 [] 0:T),none,0)]) (sz:=w8.heap.size) xu.o (by rw[fB];exact Gh.o) tX.o (rX nm _ _) (aS tV.o (bV HK.o.lt)) HK.o.lt KT.o,by rw[List.map_append,uK.o];rfl⟩
  ·obtain⟨d0,d1,d2,d3,d4,d5,d6,d7,_,_,_,_,_,_,_,_⟩:=dO HP8.o
   go_wp2_with fail
   go_loopw [49] (fun i wr=>∃ j:Nat,j≤el∧i=.int .i64 j∧Xk w1 w5.heap.size w3.heap.size (.mk 2 wk 0 [] 0::(ex.take j).map iy) wr) (fun i _=>el-(intOf i).toNat)
   case atStart=>exact⟨0,aX _,rfl,_,_,HS.o,rfl⟩
   case round =>
    obtain⟨j,hj,rfl,v,ps,hK,hps⟩:=hrel
    have HK:=ae hK
    have uK:=ae hps
    have KT:=ae (fun k (e:v.ownBlock=some k)=>(HK.o.own.lt k e).2)
    have gZ:=ae (HB1.o.trans (HK.o.below.mono (bV hs1)))
    have RQ:=ae ((HK.o.below.block w.heap.size hs0).trans Hw.o)
    clear hK hps
    have hpl:=ae (zx uK.o (XU iy _ U3.o hj))
    have hpl2:=ae (adJ hpl.o hj l1)
    by_cases hlt:j<el
    ·obtain⟨x,hx⟩:=get_some U3.o hlt
     obtain⟨b,o,A',c',rfl,IU,c0,c1,c2,c3,hKx⟩:=iZ.gy HE.o wr gZ.o j x hx
     have htk:=ae (UY iy (.mk 2 wk 0 [] 0) hx)
     obtain⟨wx,iK⟩:∃ wx,wx=wr.alloc (.cells #[.int .i64 x.k,.string x.s,.int .i64 x.n,.slice A' x.kids.length c'] 38):=⟨_,rfl⟩
     have hbx:Below wr.heap.size wr wx:=by rw[iK];exact (aG _ _).alloc (aF _) _
     have hnx:wx.heap[wr.heap.size]?=some (.cells #[.int .i64 x.k,.string x.s,.int .i64 x.n,.slice A' x.kids.length c'] 38 (0,0)):=by rw[iK];exact aH wr _
     have lG:=ae (Kz x (HEX.o x (aN hx)) A' c' wx.drew ((hKx.low hbx.drew).more hbx.drew.size))
     have jW:Hid (Below wr.heap.size wr wx.drew):=ae hbx.drew
     have g0:=(dN (HK.o.bel hbx).box).1.2.2.2.1
     have ni:=ae iK
     obtain⟨⟨n0',n1',n2',n3'⟩,_,_,_,_⟩:=fQ hnx
     obtain⟨y,hy⟩:∃ y,y=iy x:=⟨_,rfl⟩
     rw[←hy] at lG htk
     clear iK hbx hnx hx hKx hy
     obtain⟨xk,xs,xn,xl⟩:=x
     obtain⟨tk,ts,tn,tl,ta⟩:=y
     simp only[E.val,E.k,E.s,E.n,E.kids,T.val,T.k,T.s,T.n,T.kids,T.at_] at c0 c1 c2 c3 lG ni n0' n1' n2' n3'
     generalize xl.length=xm at *
     go_upto_region 12 with (fail)
     rw[←ni.o]
     go_region_law (first
      | (refine step_append_lies _ rfl _ _ _ rfl w3.heap.size 71 i0 _ 5 64 Tryz.underlying69 hi hz0 hz1 hz2 rfl (by decide) _ _ _ rfl (nM.o.own.alloc _) ⟨w6.heap.size,0,none⟩ 1 1 (TP.cs ((.mk tk ts tn tl ta:T),A6,c6)) rfl rfl (bz (aH w6 _)) (by rw[←fB];exact fF _) (by decide) (Ef hpl2.o) (xR hpl2.o) Eg.o _ rfl ?_;intro g' cap w7 jo hgrow hat Gg
         have Gh:=ae jo
         have xu:Hid (w6.grownBy w7 v.ownBlock):=ae ((World.grownBy_alloc _ _ _).trans hgrow)
         have tX:Hid ((Value.slice (some ⟨g',0,none⟩) (ps.length+1) cap).ownBlock=v.ownBlock∨∃ n,(Value.slice (some ⟨g',0,none⟩) (ps.length+1) cap).ownBlock=some n∧w6.heap.size≤n):=ae (hat.imp (fun h=>h.symm) fun h=>⟨g',rfl,by rw[h];exact (dV w6 _ _).size⟩)
         have FP:=ae ((xu.o.block w5.heap.size nM.o.lt (fun e=>nM.o.CG e.symm)).trans nM.o.box)
         obtain⟨⟨p0,p1,p2,p3,p4⟩,q0,q1,q2,q3,q4⟩:=dN FP.o
         clear jo hgrow hat)
      | (go_simp;go_at_call 67;refine (lG.o).mono ?_;rintro e w6 ⟨⟨A6,c6,rfl,hc6,Eh⟩,hb6⟩
         simp only[T.val,T.k,T.s,T.n,T.kids,T.at_]
         have nM:=ae (HK.o.bel (jW.o.trans (hb6.mono jW.o.size)))
         have Eg:Hid (w3.heap.size≤(w6.alloc (.cells #[.int .i64 tk,.string ts,.int .i64 tn,.slice A6 tl.length c6,.int .i64 ta] 71)).heap.size):=ae (aS (aS tV.o (bV nM.o.lt)) (dV w6 _ _).size)
         have g3:w6.cell? ⟨w5.heap.size,3,none⟩=some v:=(dN nM.o.box).1.2.2.2.1
         have Ua:(w6.alloc (.cells #[.int .i64 tk,.string ts,.int .i64 tn,.slice A6 tl.length c6,.int .i64 ta] 71)).cell? ⟨w5.heap.size,3,none⟩=some v:=(World.cell?_alloc_some _ _ _ (by rw[g3];rfl)).trans g3
         have Gi:=ae Eh
         have AU:=ae hc6
         clear Eh hc6
         clear hb6))
     all_goals
      go_wp2_with fail
      go_roundw
      case measure=>exact AL hlt
      case rel=>exact⟨j+1,hlt,by simp,_,_,nM.o.step (xs:=[((.mk tk ts tn tl ta:T),A6,c6)]) (sz:=wr.heap.size) xu.o (by rw[fB];exact Gh.o) tX.o (AO AU.o (Gi.o.mono fun k hk=>⟨aS jW.o.size hk.1,hk.2⟩)) (aS tV.o (bV HK.o.lt)) HK.o.lt KT.o,by rw[List.map_append,uK.o,htk.o];rfl⟩
    ·go_wp2_with fail
     go_meet
     case rel=>exact⟨rfl,v,ps,HK.o,by rw[uK.o,XV iy _ U3.o hlt];rfl⟩
  ·obtain⟨d0,d1,d2,d3,d4,d5,d6,d7,_,_,_,_,_,_,_,_⟩:=dO HP8.o
   go_wp2_with fail
   go_loopw [66] (fun i wr=>∃ j:Nat,j≤cl∧i=.int .i64 j∧Xk w1 w5.heap.size w3.heap.size (.mk 2 wk 0 [] 0::(rZ cols ex).take j) wr) (fun i _=>cl-(intOf i).toNat)
   case atStart=>exact⟨0,aX _,rfl,_,_,HS.o,rfl⟩
   case round =>
    obtain⟨j,hj,rfl,v,ps,hK,hps⟩:=hrel
    have HK:=ae hK
    have uK:=ae hps
    have KT:=ae (fun k (e:v.ownBlock=some k)=>(HK.o.own.lt k e).2)
    have gZ:=ae (HB1.o.trans (HK.o.below.mono (bV hs1)))
    have RQ:=ae ((HK.o.below.block w.heap.size hs0).trans Hw.o)
    clear hK hps
    have hpl:=ae (zx uK.o (XW X0.o U3.o Q5.o hj))
    have hpl2:=ae (adJ hpl.o hj l2)
    by_cases hlt:j<cl
    ·obtain⟨c,hcx⟩:=get_some X0.o hlt
     obtain⟨bC,oC,rfl,hbC,U4⟩:=Xl.o.at_ hcx
     have hcw:wr.cell? ⟨bC,oC+j,none⟩=some (.string c):=(gZ.o.cell hbC).trans U4
     have hje:j<el:=aK hlt Q5.o
     obtain⟨x,hx⟩:=get_some U3.o hje
     obtain⟨b,o,A',c',rfl,IU,c0,c1,c2,c3,hKx⟩:=iZ.gy HE.o wr gZ.o j x hx
     have htk:=ae (U0 (.mk 2 wk 0 [] 0) hcx hx)
     have IP:=ae (fun w' (h:Below wr.heap.size wr w')=>Kz x (HEX.o x (aN hx)) A' c' w' ((hKx.low h).more h.size))
     have oQ:Hid (∀ w',Below wr.heap.size wr w'→w'.cell? ⟨w5.heap.size,3,none⟩=some v∧w'.cell? ⟨w.heap.size,2,none⟩=some (.slice (some ⟨b,o,none⟩) el ec)∧w'.cell? ⟨b,o+j*4,none⟩=some (.int .i64 x.k)∧w'.cell? ⟨b,o+j*4+1,none⟩=some (.string x.s)∧w'.cell? ⟨b,o+j*4+2,none⟩=some (.int .i64 x.n)∧w'.cell? ⟨b,o+j*4+3,none⟩=some (.slice A' x.kids.length c')) :=
      ae fun w' h=>⟨(dN (HK.o.bel h).box).1.2.2.2.1,(dO ((h.block _ (aK hs0 HK.o.below.size)).trans RQ.o)).c2,(h.cell (aK IU gZ.o.size)).trans c0,(h.cell (aK IU gZ.o.size)).trans c1,(h.cell (aK IU gZ.o.size)).trans c2,(h.cell (aK IU gZ.o.size)).trans c3⟩
     have d2:=(dO RQ.o).c2
     obtain⟨y,hy⟩:∃ y,y=iy x:=⟨_,rfl⟩
     rw[←hy] at IP htk
     clear hcx U4 hx hKx c0 c1 c2 c3 hy
     obtain⟨xk,xs,xn,xl⟩:=x
     obtain⟨tk,ts,tn,tl,ta⟩:=y
     simp only[E.val,E.k,E.s,E.n,E.kids] at oQ IP
     generalize xl.length=xm at *
     go_upto_region 19 with (fail)
     refine dL.iP (fun w'=>Below wr.heap.size wr w') [13,14,15] (by kernel_rfl) ((aG _ _).drew) (fun hHeld=>?_)
     refine dL.RH (i:=0) (v:=.pointer (some ⟨w5.heap.size,3,none⟩)) (C:=[0,1,13,14,15]) rfl (by kernel_rfl) aA (bD ⟨by rfl,fun _ _=>by go_simp⟩) ‹_› ?_
     simp only[ah,ai,Act.put,au,ay,az]
     refine dL.RH (i:=1) (v:=v) (C:=[1,13,14,15]) rfl (by kernel_rfl) aA (bD ⟨by rfl,fun w1' hSw=>by (obtain⟨r1,r2,r3,r4,r5,r6⟩:=oQ.o _ hSw;go_simp)⟩) ‹_› ?_
     simp only[ah,aj,ai,Act.put,au,ay,az]
     refine dL.RH (i:=2) (v:=.string c) (C:=[2,3,10,11,12,13,14,15]) rfl (by kernel_rfl) aA (bD ⟨by rfl,fun _ _=>by go_simp⟩) ‹_› ?_
     simp only[ah,aj,ai,Act.put,au,ay,az]
     refine dL.RH (i:=4) (v:=.pointer (some ⟨w.heap.size,2,none⟩)) (C:=[4,5,7,8,9,10,11,12,13,14,15]) rfl (by kernel_rfl) aA (bD ⟨by rfl,fun _ _=>by go_simp⟩) ‹_› ?_
     simp only[ah,aj,ai,Act.put,au,ay,az]
     refine dL.RH (i:=5) (v:=.slice (some ⟨b,o,none⟩) el ec) (C:=[5,7,8,9,10,11,12,13,14,15]) rfl (by kernel_rfl) aA (bD ⟨by rfl,fun w1' hSw=>by (obtain⟨r1,r2,r3,r4,r5,r6⟩:=oQ.o _ hSw;go_simp)⟩) ‹_› ?_
     simp only[ah,aj,ai,Act.put,au,ay,az]
     refine dL.RH (i:=6) (v:=.int .i64 j) (C:=[6,7,8,9,10,11,12,13,14,15]) rfl (by kernel_rfl) aA (bD ⟨by rfl,fun _ _=>by go_simp⟩) ‹_› ?_
     simp only[ah,aj,ai,Act.put,au,ay,az]
     refine dL.RH (i:=7) (v:=.pointer (some ⟨b,o+j*4,none⟩)) (C:=[7,8,9,10,11,12,13,14,15]) rfl (by kernel_rfl) aA (bD ⟨by rfl,fun _ _=>by go_simp⟩) ‹_› ?_
     simp only[ah,aj,ai,Act.put,au,ay,az]
     refine dL.RH (i:=8) (v:=(.agg #[.int .i64 xk,.string xs,.int .i64 xn,.slice A' xm c'])) (C:=[8,9,10,11,12,13,14,15]) rfl (by kernel_rfl) aA (bD ⟨by rfl,fun w1' hSw=>by (obtain⟨r1,r2,r3,r4,r5,r6⟩:=oQ.o _ hSw;go_simp)⟩) ‹_› ?_
     simp only[ah,aj,ai,Act.put,au,ay,az]
     refine dL.dM (rs:=[3]) (by kernel_rfl) (by simp) ?_
     refine dL.dJ.cons rfl (fun K hK=>?_) dL.dJ.nil
     simp only[ah,aj,ai]
     go_simp
     refine (hwa.o c wr.drew).mono ?_
     rintro e wa ⟨rfl,AV⟩
     go_wp2_with fail
     refine hK.o _ _ (((aG wr.heap.size wr).drew).trans AV) (fun hHeld=>?_)
     clear hK K
     refine dL.dM (rs:=[9]) (by kernel_rfl) (by simp) ?_
     refine dL.dJ.cons rfl (fun K hK=>?_) dL.dJ.nil
     simp only[ah,aj,ai]
     go_simp
     refine (IP.o wa (((aG wr.heap.size wr).drew).trans AV)).mono ?_
     rintro e wb ⟨⟨A7,c7,rfl,Qn,Qo⟩,Oq⟩
     simp only[T.val,T.k,T.s,T.n,T.kids,T.at_]
     go_wp2_with fail
     have uM:Hid (Below wr.heap.size wr wb):=ae ((((aG wr.heap.size wr).drew).trans AV).trans (Oq.mono AV.size))
     have xq:=ae (Qo.mono fun k hk=>(⟨aS AV.size hk.1,hk.2⟩:wr.drew.heap.size≤k∧k<wb.heap.size))
     have HC7:=ae Qn
     refine hK.o _ _ uM.o (fun hHeld=>?_)
     clear hK K Qo Qn AV Oq
     refine dL.dM (rs:=[10]) (by kernel_rfl) (by simp) ?_
     refine dL.dJ.cons rfl (fun K hK=>?_) dL.dJ.nil
     simp only[ah,aj,ai]
     go_simp
     obtain⟨wq,hwq⟩:∃ wq,wq=wb.alloc (.cells #[.int .i64 2,.string c,.int .i64 0,.slice none 0 0,.int .i64 0,.int .i64 tk,.string ts,.int .i64 tn,.slice A7 tl.length c7,.int .i64 ta] 71):=⟨_,rfl⟩
     rw[←hwq]
     have uI:Hid (Below wb.heap.size wb wq):=ae (by rw[hwq];exact dV _ _ _)
     have HQ:Hid (wq.heap[wb.heap.size]?=some (.cells #[.int .i64 2,.string c,.int .i64 0,.slice none 0 0,.int .i64 0,.int .i64 tk,.string ts,.int .i64 tn,.slice A7 tl.length c7,.int .i64 ta] 71 (0,0))):=ae (by rw[hwq];exact aH wb _)
     clear hwq
     refine hK.o _ _ (uM.o.trans (uI.o.mono uM.o.size)) (fun hHeld=>?_)
     clear hK K
     refine dL.dM (rs:=[11]) (by kernel_rfl) (by simp) ?_
     refine dL.dJ.cons rfl (fun K hK=>?_) dL.dJ.nil
     simp only[ah,aj,ai]
     go_simp
     refine (hwo.o (some ⟨wb.heap.size,0,none⟩) 2 2 wq).mono ?_
     rintro e w6 ⟨rfl,hb6⟩
     go_wp2_with fail
     have kD:Hid (Below wr.heap.size wr w6):=ae ((uM.o.trans (uI.o.mono uM.o.size)).trans (hb6.mono (aS uM.o.size uI.o.size)))
     have HXI:=ae (XY (X:=((.mk 2 c 0 [] 0:T),none,0)) (Y:=((.mk tk ts tn tl ta:T),A7,c7)) HQ.o (hb6.block _ (aU.1 HQ.o).1) (aK (aU.1 HQ.o).1 hb6.size) uM.o.size (rX c wb _) HC7.o (xq.o) (uI.o.trans (hb6.mono uI.o.size)))
     have nM:=ae (HK.o.bel kD.o)
     refine hK.o _ _ kD.o (fun hHeld=>?_)
     clear hK K hb6
     refine dL.dM (rs:=[12]) (by kernel_rfl) (by simp) ?_
     refine dL.dJ.cons rfl (fun K hK=>?_) dL.dJ.nil
     simp only[ah,aj,ai]
     go_simp
     refine hK.o _ _ (kD.o.alloc kD.o.size _) (fun hHeld=>?_)
     clear hK K
     refine dL.dM (rs:=[13]) (by kernel_rfl) (by simp) ?_
     refine dL.dJ.late (by decide) rfl (fun K hK=>?_) dL.dJ.nil
     refine step_append_lies _ rfl _ _ _ rfl w3.heap.size 71 i0 _ 5 64 Tryz.underlying69 hi hz0 hz1 hz2 rfl (by decide) _ _ _ rfl (nM.o.own.alloc _) ⟨w6.heap.size,0,none⟩ 1 1 [.int .i64 1,.string ⟨#[]⟩,.int .i64 0,.slice (some ⟨wb.heap.size,0,none⟩) 2 2,.int .i64 0] rfl rfl (bz (aH w6 _)) (fF [((.mk 1 ⟨#[]⟩ 0 [.mk 2 c 0 [] 0,.mk tk ts tn tl ta] 0:T),some ⟨wb.heap.size,0,none⟩,2)]) (by decide) (Ef hpl2.o) (xR hpl2.o) (aS (aS (aS tV.o (bV HK.o.lt)) kD.o.size) (dV w6 _ _).size) _ rfl ?_
     intro g' cap w7 jo hgrow hat Gg
     have Gh:=ae jo
     have xu:Hid (w6.grownBy w7 v.ownBlock):=ae ((World.grownBy_alloc _ _ _).trans hgrow)
     have tX:Hid ((Value.slice (some ⟨g',0,none⟩) (ps.length+1) cap).ownBlock=v.ownBlock∨∃ n,(Value.slice (some ⟨g',0,none⟩) (ps.length+1) cap).ownBlock=some n∧w6.heap.size≤n):=ae (hat.imp (fun h=>h.symm) fun h=>⟨g',rfl,by rw[h];exact (dV w6 _ _).size⟩)
     have FP:=ae ((xu.o.block w5.heap.size nM.o.lt (fun e=>nM.o.CG e.symm)).trans nM.o.box)
     obtain⟨⟨p0,p1,p2,p3,p4⟩,q0,q1,q2,q3,q4⟩:=dN FP.o
     clear jo hgrow hat
     refine hK.o _ _ ?_
     clear hK K
     simp only[ah,aj,ai,Act.put,au,ay,az]
     refine dL.dM (rs:=[14]) (by kernel_rfl) (by simp) ?_
     refine dL.dJ.late (by decide) rfl (fun K hK=>?_) dL.dJ.nil
     simp only[ah,aj,ai]
     go_simp
     refine hK.o _ _ ?_
     clear hK K
     refine dL.dM (rs:=[15]) (by kernel_rfl) (by simp) ?_
     refine dL.dJ.late (by decide) rfl (fun K hK=>?_) dL.dJ.nil
     simp only[ah,aj,ai]
     go_simp
     refine hK.o _ _ ?_
     clear hK K
     refine dL.gW (by kernel_rfl) ?_ _
     go_wp2_with fail
     go_roundw
     case measure=>exact AL hlt
     case rel=>exact⟨j+1,hlt,by simp,_,_,nM.o.step (xs:=[((.mk 1 ⟨#[]⟩ 0 [.mk 2 c 0 [] 0,.mk tk ts tn tl ta] 0:T),some ⟨wb.heap.size,0,none⟩,2)]) (sz:=wr.heap.size) xu.o Gh.o tX.o (AO (by simp[T.kids]) HXI.o) (aS tV.o (bV HK.o.lt)) HK.o.lt KT.o,by rw[List.map_append,uK.o,htk.o];rfl⟩
    ·have he:=ae (XX X0.o U3.o Q5.o hlt (wk:=wk))
     go_wp2_with fail
     go_meet
     case rel=>exact⟨rfl,v,ps,HK.o,by rw[uK.o,he.o];rfl⟩
  ·obtain⟨v,ps,hK,hps⟩:Xk w1 w5.heap.size w3.heap.size [.mk 2 wk 0 [] 0] w8:=⟨_,_,HS.o,rfl⟩
   have HK:=ae hK
   have uK:=ae hps
   have KT:=ae (fun k (e:v.ownBlock=some k)=>(HK.o.own.lt k e).2)
   have gZ:=ae (HB1.o.trans (HK.o.below.mono (bV hs1)))
   have RQ:=ae ((HK.o.below.block w.heap.size hs0).trans Hw.o)
   clear hK hps
   have hpl:=ae (zx uK.o (j:=1) rfl)
   have hpl2:=ae (show ps.length≤2000 by rw[hpl.o];decide)
   have oQ:Hid (∀ w',Below w8.heap.size w8 w'→w'.cell? ⟨w5.heap.size,3,none⟩=some v∧w'.cell? ⟨w.heap.size,4,none⟩=some (.slice la ll lc)∧w'.cell? ⟨w.heap.size,5,none⟩=some (.slice ra rl rc)):=ae fun w' h=>⟨(dN (HK.o.bel h).box).1.2.2.2.1,(dO ((h.block _ (aK hs0 HK.o.below.size)).trans RQ.o)).c4,(dO ((h.block _ (aK hs0 HK.o.below.size)).trans RQ.o)).c5⟩
   have Qe:Hid (∀ w',Below w8.heap.size w8 w'→Calls Tryz.prog 68 #[.slice la ll lc] w' (pF w' (iO left))):=ae fun w' h=>su Nl.o l3 ((HLF.o.kept fun k hk=>(gZ.o.trans (h.mono gZ.o.size)).block k hk).mono fun k hk=>aK hk (gZ.o.trans (h.mono gZ.o.size)).size)
   have HC2:Hid (∀ w',Below w8.heap.size w8 w'→Calls Tryz.prog 68 #[.slice ra rl rc] w' (pF w' (iO right))):=ae fun w' h=>su HRL.o l4 ((HRI.o.kept fun k hk=>(gZ.o.trans (h.mono gZ.o.size)).block k hk).mono fun k hk=>aK hk (gZ.o.trans (h.mono gZ.o.size)).size)
   have hmid:Hid (mF 4 nm ex cols left right ag=[iO left,iO right]):=ae rfl
   generalize iO left=yl at *
   generalize iO right=yr at *
   obtain⟨lk,ls,ln,lt,lo⟩:=yl
   obtain⟨rk,rs,rn,rt,ro⟩:=yr
   go_upto_region 22 with (fail)
   refine dL.iP (fun w'=>Below w8.heap.size w8 w') [9,10,11] (by kernel_rfl) ((aG _ _).drew) (fun hHeld=>?_)
   refine dL.RH (i:=0) (v:=.pointer (some ⟨w5.heap.size,3,none⟩)) (C:=[0,1,9,10,11]) rfl (by kernel_rfl) aA (bD ⟨by rfl,fun _ _=>by go_simp⟩) ‹_› ?_
   simp only[ah,ai,Act.put,au,ay,az]
   refine dL.RH (i:=1) (v:=v) (C:=[1,9,10,11]) rfl (by kernel_rfl) aA (bD ⟨by rfl,fun w1' hSw=>by (obtain⟨r1,r2,r3⟩:=oQ.o _ hSw;go_simp)⟩) ‹_› ?_
   simp only[ah,aj,ai,Act.put,au,ay,az]
   refine dL.RH (i:=2) (v:=.pointer (some ⟨w.heap.size,4,none⟩)) (C:=[2,3,4,8,9,10,11]) rfl (by kernel_rfl) aA (bD ⟨by rfl,fun _ _=>by go_simp⟩) ‹_› ?_
   simp only[ah,aj,ai,Act.put,au,ay,az]
   refine dL.RH (i:=3) (v:=.slice la ll lc) (C:=[3,4,8,9,10,11]) rfl (by kernel_rfl) aA (bD ⟨by rfl,fun w1' hSw=>by (obtain⟨r1,r2,r3⟩:=oQ.o _ hSw;go_simp)⟩) ‹_› ?_
   simp only[ah,aj,ai,Act.put,au,ay,az]
   refine dL.RH (i:=5) (v:=.pointer (some ⟨w.heap.size,5,none⟩)) (C:=[5,6,7,8,9,10,11]) rfl (by kernel_rfl) aA (bD ⟨by rfl,fun _ _=>by go_simp⟩) ‹_› ?_
   simp only[ah,aj,ai,Act.put,au,ay,az]
   refine dL.RH (i:=6) (v:=.slice ra rl rc) (C:=[6,7,8,9,10,11]) rfl (by kernel_rfl) aA (bD ⟨by rfl,fun w1' hSw=>by (obtain⟨r1,r2,r3⟩:=oQ.o _ hSw;go_simp)⟩) ‹_› ?_
   simp only[ah,aj,ai,Act.put,au,ay,az]
   refine dL.dM (rs:=[4]) (by kernel_rfl) (by simp) ?_
   refine dL.dJ.cons rfl (fun K hK=>?_) dL.dJ.nil
   simp only[ah,aj,ai]
   go_simp
   refine (Qe.o w8.drew (aG _ _).drew).mono ?_
   rintro e wa ⟨⟨A6,c6,rfl,hc6,Eh⟩,AV⟩
   simp only[T.val,T.k,T.s,T.n,T.kids,T.at_]
   go_wp2_with fail
   refine hK.o _ _ (((aG w8.heap.size w8).drew).trans AV) (fun hHeld=>?_)
   clear hK K
   refine dL.dM (rs:=[7]) (by kernel_rfl) (by simp) ?_
   refine dL.dJ.cons rfl (fun K hK=>?_) dL.dJ.nil
   simp only[ah,aj,ai]
   go_simp
   refine (HC2.o wa (((aG w8.heap.size w8).drew).trans AV)).mono ?_
   rintro e wb ⟨⟨A7,c7,rfl,Qn,Qo⟩,Oq⟩
   simp only[T.val,T.k,T.s,T.n,T.kids,T.at_]
   go_wp2_with fail
   have DV:=ae ((Eh.kept fun k hk=>Oq.block k hk.2).mono fun k hk=>(⟨hk.1,aK hk.2 Oq.size⟩:w8.drew.heap.size≤k∧k<wb.heap.size))
   have xq:=ae (Qo.mono fun k hk=>(⟨aS AV.size hk.1,hk.2⟩:w8.drew.heap.size≤k∧k<wb.heap.size))
   have AU:=ae hc6
   have HC7:=ae Qn
   have uM:Hid (Below w8.heap.size w8 wb):=ae ((((aG w8.heap.size w8).drew).trans AV).trans (Oq.mono AV.size))
   have nM:=ae (HK.o.bel uM.o)
   refine hK.o _ _ uM.o (fun hHeld=>?_)
   clear hK K Eh Qo hc6 Qn AV Oq
   refine dL.dM (rs:=[8]) (by kernel_rfl) (by simp) ?_
   refine dL.dJ.cons rfl (fun K hK=>?_) dL.dJ.nil
   simp only[ah,aj,ai]
   go_simp
   refine hK.o _ _ (uM.o.alloc uM.o.size _) (fun hHeld=>?_)
   clear hK K
   refine dL.dM (rs:=[9]) (by kernel_rfl) (by simp) ?_
   refine dL.dJ.late (by decide) rfl (fun K hK=>?_) dL.dJ.nil
   refine step_append_lies _ rfl _ _ _ rfl w3.heap.size 71 i0 _ 5 64 Tryz.underlying69 hi hz0 hz1 hz2 rfl (by decide) _ _ _ rfl (nM.o.own.alloc _) ⟨wb.heap.size,0,none⟩ 2 2 [.int .i64 lk,.string ls,.int .i64 ln,.slice A6 lt.length c6,.int .i64 lo,.int .i64 rk,.string rs,.int .i64 rn,.slice A7 rt.length c7,.int .i64 ro] rfl rfl (bz (aH wb _)) (fF [((.mk lk ls ln lt lo:T),A6,c6),((.mk rk rs rn rt ro:T),A7,c7)]) (by decide) (adI hpl2.o) (aaD hpl2.o) (aS (aS (aS tV.o (bV HK.o.lt)) uM.o.size) (dV wb _ _).size) _ rfl ?_
   intro g' cap w7 jo hgrow hat Gg
   have Gh:=ae jo
   have xu:Hid (wb.grownBy w7 v.ownBlock):=ae ((World.grownBy_alloc _ _ _).trans hgrow)
   have tX:Hid ((Value.slice (some ⟨g',0,none⟩) (ps.length+2) cap).ownBlock=v.ownBlock∨∃ n,(Value.slice (some ⟨g',0,none⟩) (ps.length+2) cap).ownBlock=some n∧wb.heap.size≤n):=ae (hat.imp (fun h=>h.symm) fun h=>⟨g',rfl,by rw[h];exact (dV wb _ _).size⟩)
   have FP:=ae ((xu.o.block w5.heap.size nM.o.lt (fun e=>nM.o.CG e.symm)).trans nM.o.box)
   obtain⟨⟨p0,p1,p2,p3,p4⟩,q0,q1,q2,q3,q4⟩:=dN FP.o
   clear jo hgrow hat
   refine hK.o _ _ ?_
   clear hK K
   simp only[ah,aj,ai,Act.put,au,ay,az]
   refine dL.dM (rs:=[10]) (by kernel_rfl) (by simp) ?_
   refine dL.dJ.late (by decide) rfl (fun K hK=>?_) dL.dJ.nil
   simp only[ah,aj,ai]
   go_simp
   refine hK.o _ _ ?_
   clear hK K
   refine dL.dM (rs:=[11]) (by kernel_rfl) (by simp) ?_
   refine dL.dJ.late (by decide) rfl (fun K hK=>?_) dL.dJ.nil
   simp only[ah,aj,ai]
   go_simp
   refine hK.o _ _ ?_
   clear hK K
   refine dL.gW (by kernel_rfl) ?_ _
   go_wp2_with fail
   go_meet
   case rel=>exact⟨rfl,_,_,nM.o.step (xs:=[((.mk lk ls ln lt lo:T),A6,c6),((.mk rk rs rn rt ro:T),A7,c7)]) (sz:=w8.heap.size) xu.o Gh.o tX.o (UZ AU.o DV.o HC7.o xq.o) (aS tV.o (bV HK.o.lt)) HK.o.lt KT.o,by rw[List.map_append,uK.o,hmid.o];rfl⟩
  ·go_wp2_with fail
   go_meet
   case rel=>exact⟨rfl,_,_,HS.o,rfl⟩
  ·go_wp2_with fail
   go_meet
   case rel=>exact⟨rfl,_,_,HS.o,rfl⟩
  ·obtain⟨v,ps,hK,hps⟩:Xk w1 w5.heap.size w3.heap.size [.mk 2 wk 0 [] 0] w8:=⟨_,_,HS.o,rfl⟩
   have HK:=ae hK
   have uK:=ae hps
   have KT:=ae (fun k (e:v.ownBlock=some k)=>(HK.o.own.lt k e).2)
   have gZ:=ae (HB1.o.trans (HK.o.below.mono (bV hs1)))
   have RQ:=ae ((HK.o.below.block w.heap.size hs0).trans Hw.o)
   clear hK hps
   have hpl:=ae (zx uK.o (j:=1) rfl)
   have hpl2:=ae (show ps.length≤2000 by rw[hpl.o];decide)
   have d4:=(dO RQ.o).c4
   have g0:=(dN HK.o.box).1.2.2.2.1
   have jW:=ae (show Below w8.heap.size w8 w8.drew from (aG _ _).drew)
   have lG:=ae (su (A:=la) (c:=lc) Nl.o l3 ((HLF.o.kept fun k hk=>(gZ.o.trans (jW.o.mono gZ.o.size)).block k hk).mono fun k hk=>aK hk (gZ.o.trans (jW.o.mono gZ.o.size)).size))
   have hmid:Hid (mF 7 nm ex cols left right ag=iO left::ag.map fun g=>iO (uH g)):=ae rfl
   generalize hyl:iO left=yl at *
   have HYL:=ae hyl
   clear hyl
   obtain⟨tk,ts,tn,tl,ta⟩:=yl
   go_upto_region 24 with (fail)
   go_cut [4] (fun s4 wx=>s4=.pointer (some ⟨w5.heap.size,0,none⟩)∧Xk w1 w5.heap.size w3.heap.size [.mk 2 wk 0 [] 0,.mk tk ts tn tl ta] wx)
   case first =>
    go_region_law (first
     | (refine step_append_lies _ rfl _ _ _ rfl w3.heap.size 71 i0 _ 5 64 Tryz.underlying69 hi hz0 hz1 hz2 rfl (by decide) _ _ _ rfl (nM.o.own.alloc _) ⟨w6.heap.size,0,none⟩ 1 1 (TP.cs ((.mk tk ts tn tl ta:T),A6,c6)) rfl rfl (bz (aH w6 _)) (by rw[←fB];exact fF _) (by decide) (Ef hpl2.o) (xR hpl2.o) Eg.o _ rfl ?_;intro g' cap w7 jo hgrow hat Gg
        have Gh:=ae jo
        have xu:Hid (w6.grownBy w7 v.ownBlock):=ae ((World.grownBy_alloc _ _ _).trans hgrow)
        have tX:Hid ((Value.slice (some ⟨g',0,none⟩) (ps.length+1) cap).ownBlock=v.ownBlock∨∃ n,(Value.slice (some ⟨g',0,none⟩) (ps.length+1) cap).ownBlock=some n∧w6.heap.size≤n):=ae (hat.imp (fun h=>h.symm) fun h=>⟨g',rfl,by rw[h];exact (dV w6 _ _).size⟩)
        have FP:=ae ((xu.o.block w5.heap.size nM.o.lt (fun e=>nM.o.CG e.symm)).trans nM.o.box)
        obtain⟨⟨p0,p1,p2,p3,p4⟩,q0,q1,q2,q3,q4⟩:=dN FP.o
        clear jo hgrow hat)
     | (go_simp;go_at_call 68;refine (lG.o).mono ?_;rintro e w6 ⟨⟨A6,c6,rfl,hc6,Eh⟩,hb6⟩
        simp only[T.val,T.k,T.s,T.n,T.kids,T.at_]
        have nM:=ae (HK.o.bel (jW.o.trans (hb6.mono jW.o.size)))
        have Eg:Hid (w3.heap.size≤(w6.alloc (.cells #[.int .i64 tk,.string ts,.int .i64 tn,.slice A6 tl.length c6,.int .i64 ta] 71)).heap.size):=ae (aS (aS tV.o (bV nM.o.lt)) (dV w6 _ _).size)
        have g3:w6.cell? ⟨w5.heap.size,3,none⟩=some v:=(dN nM.o.box).1.2.2.2.1
        have Ua:(w6.alloc (.cells #[.int .i64 tk,.string ts,.int .i64 tn,.slice A6 tl.length c6,.int .i64 ta] 71)).cell? ⟨w5.heap.size,3,none⟩=some v:=(World.cell?_alloc_some _ _ _ (by rw[g3];rfl)).trans g3
        have Gi:=ae Eh
        have AU:=ae hc6
        clear Eh hc6
        clear hb6))
    all_goals
     go_wp2_with fail
     go_meet
     case rel=>exact⟨rfl,_,_,nM.o.step (xs:=[((.mk tk ts tn tl ta:T),A6,c6)]) (sz:=w8.heap.size) xu.o (by rw[fB];exact Gh.o) tX.o (AO AU.o (Gi.o.mono fun k hk=>⟨aS jW.o.size hk.1,hk.2⟩)) (aS tV.o (bV HK.o.lt)) HK.o.lt KT.o,by rw[List.map_append,uK.o];rfl⟩
   case rest =>
    obtain⟨rfl,v0,ps0,hK0,hps0⟩:=hcut
    clear HK uK hpl hpl2 KT gZ RQ d4 g0 jW lG
    have HK0:=ae hK0
    have aaH:=ae hps0
    have HP0:=ae ((hK0.below.block w.heap.size hs0).trans Hw.o)
    clear hK0 hps0
    have d6:=(dO HP0.o).c6
    go_wp2_with fail
    go_loopw [118] (fun i wr=>∃ j:Nat,j≤gl∧i=.int .i64 j∧Xk w1 w5.heap.size w3.heap.size ([.mk 2 wk 0 [] 0,.mk tk ts tn tl ta]++(ag.take j).map fun g=>iO (uH g)) wr) (fun i _=>gl-(intOf i).toNat)
    case atStart=>exact⟨0,aX _,rfl,_,_,HK0.o,by rw[aaH.o];rfl⟩
    case round =>
     obtain⟨j,hj,rfl,v,ps,hK,hps⟩:=hrel
     have HK:=ae hK
     have uK:=ae hps
     have KT:=ae (fun k (e:v.ownBlock=some k)=>(HK.o.own.lt k e).2)
     have gZ:=ae (HB1.o.trans (HK.o.below.mono (bV hs1)))
     have RQ:=ae ((HK.o.below.block w.heap.size hs0).trans Hw.o)
     clear hK hps
     have hpl2:=ae (Qm (k:=2) uK.o rfl (by simp) Uc.o hj l5)
     by_cases hlt:j<gl
     ·obtain⟨x,hx⟩:=get_some Uc.o hlt
      obtain⟨b,o,rfl,hbl,m0,m1,m2⟩:=XZ HG.o hx
      have m0':=(gZ.o.cell (p:=⟨b,o+j*3,none⟩) hbl).trans m0
      have m1':=(gZ.o.cell (p:=⟨b,o+j*3+1,none⟩) hbl).trans m1
      have m2':=(gZ.o.cell (p:=⟨b,o+j*3+2,none⟩) hbl).trans m2
      have htk:=ae (KU (fun g=>iO (uH g)) [.mk 2 wk 0 [] 0,.mk tk ts tn tl ta] hx)
      clear m0 m1 m2 hx
      obtain⟨an,af,ac⟩:=x
      obtain⟨wx,iK⟩:∃ wx,wx=wr.alloc (.cells #[.string an,.string af,.string ac] 46):=⟨_,rfl⟩
      have hbx:Below wr.heap.size wr wx:=by rw[iK];exact (aG _ _).alloc (aF _) _
      have hnx:wx.heap[wr.heap.size]?=some (.cells #[.string an,.string af,.string ac] 46 (0,0)):=by rw[iK];exact aH wr _
      obtain⟨wy,zY⟩:∃ wy,wy=wx.alloc (.cells #[.string an,.string af] 9):=⟨_,rfl⟩
      have hby:Below wx.heap.size wx wy:=by rw[zY];exact (aG _ _).alloc (aF _) _
      have hny:wy.heap[wx.heap.size]?=some (.cells #[.string an,.string af] 9 (0,0)):=by rw[zY];exact aH wx _
      have BH:=ae hnx
      have HNY:=ae ((hby.block _ (aU.1 hnx).1).trans hnx)
      have HOY:Hid (wy.ownsRow wx.heap.size 9 1 (.slice (some ⟨wx.heap.size,0,none⟩) 2 2) 2 (strs [an,af])):=ae ⟨rfl,.inr ⟨wx.heap.size,2,_,rfl,aF _,hny,aF _,by decide,rfl,rfl⟩⟩
      have D5:Hid (Below wr.heap.size wr wy):=ae (hbx.trans (hby.mono hbx.size))
      have hxs:=ae hbx.size
      have ni:=ae iK
      have RS:=ae zY
      clear iK hbx hnx zY hby hny
      obtain⟨⟨e0,e1,e2⟩,_,_,_⟩:=fH BH.o
      go_upto_region 28 with (fail)
      rw[←ni.o]
      go_upto_region 29 with (fail)
      rw[←RS.o]
      clear e0 e1 e2
      obtain⟨⟨e0,e1,e2⟩,_,_,_⟩:=fH HNY.o
      by_cases hf:af.toList=[99,111,117,110,116]
      ·have hag:Hid (uH ⟨an,af,ac⟩=[an,af]):=ae (aaE hf)
       have jW:Hid (Below wr.heap.size wr wy.drew):=ae D5.o.drew
       have lG:=ae (su (A:=some ⟨wx.heap.size,0,none⟩) (c:=2) (n:=2) (l:=[an,af]) (w:=wy.drew) rfl (by decide) (RN HOY.o))
       have g0:=(dN (HK.o.bel D5.o).box).1.2.2.2.1
       generalize JL:iO [an,af]=y at *
       have HYY:=ae JL
       clear JL
       obtain⟨uk,us,un,ul,uo⟩:=y
       go_upto_region 31 with (fail)
       go_region_law (first
        | (refine step_append_lies _ rfl _ _ _ rfl w3.heap.size 71 i0 _ 5 64 Tryz.underlying69 hi hz0 hz1 hz2 rfl (by decide) _ _ _ rfl (nM.o.own.alloc _) ⟨w6.heap.size,0,none⟩ 1 1 (TP.cs ((.mk uk us un ul uo:T),A6,c6)) rfl rfl (bz (aH w6 _)) (by rw[←fB];exact fF _) (by decide) (Ef hpl2.o) (xR hpl2.o) Eg.o _ rfl ?_;intro g' cap w7 jo hgrow hat Gg
           have Gh:=ae jo
           have xu:Hid (w6.grownBy w7 v.ownBlock):=ae ((World.grownBy_alloc _ _ _).trans hgrow)
           have tX:Hid ((Value.slice (some ⟨g',0,none⟩) (ps.length+1) cap).ownBlock=v.ownBlock∨∃ n,(Value.slice (some ⟨g',0,none⟩) (ps.length+1) cap).ownBlock=some n∧w6.heap.size≤n):=ae (hat.imp (fun h=>h.symm) fun h=>⟨g',rfl,by rw[h];exact (dV w6 _ _).size⟩)
           have FP:=ae ((xu.o.block w5.heap.size nM.o.lt (fun e=>nM.o.CG e.symm)).trans nM.o.box)
           obtain⟨⟨p0,p1,p2,p3,p4⟩,q0,q1,q2,q3,q4⟩:=dN FP.o
           clear jo hgrow hat)
        | (go_simp;go_at_call 68;refine (lG.o).mono ?_;rintro e w6 ⟨⟨A6,c6,rfl,hc6,Eh⟩,hb6⟩
           simp only[T.val,T.k,T.s,T.n,T.kids,T.at_]
           have nM:=ae (HK.o.bel (jW.o.trans (hb6.mono jW.o.size)))
           have Eg:Hid (w3.heap.size≤(w6.alloc (.cells #[.int .i64 uk,.string us,.int .i64 un,.slice A6 ul.length c6,.int .i64 uo] 71)).heap.size):=ae (aS (aS tV.o (bV nM.o.lt)) (dV w6 _ _).size)
           have g3:w6.cell? ⟨w5.heap.size,3,none⟩=some v:=(dN nM.o.box).1.2.2.2.1
           have Ua:(w6.alloc (.cells #[.int .i64 uk,.string us,.int .i64 un,.slice A6 ul.length c6,.int .i64 uo] 71)).cell? ⟨w5.heap.size,3,none⟩=some v:=(World.cell?_alloc_some _ _ _ (by rw[g3];rfl)).trans g3
           have Gi:=ae Eh
           have AU:=ae hc6
           clear Eh hc6
           clear hb6))
       all_goals
        go_wp2_with fail
        go_roundw
        case measure=>exact AL hlt
        case rel=>exact⟨j+1,hlt,by simp,_,_,nM.o.step (xs:=[((.mk uk us un ul uo:T),A6,c6)]) (sz:=wr.heap.size) xu.o (by rw[fB];exact Gh.o) tX.o (AO AU.o (Gi.o.mono fun k hk=>⟨aS jW.o.size hk.1,hk.2⟩)) (aS tV.o (bV HK.o.lt)) HK.o.lt KT.o,by rw[List.map_append,uK.o,htk.o,hag.o,HYY.o];rfl⟩
      ·have hf':(af.toList==[99,111,117,110,116])=false:=beq_eq_false_iff_ne.2 hf
       have hag:Hid (uH ⟨an,af,ac⟩=[an,af,ac]):=ae (aaF hf)
       obtain⟨iS,iS1,iS2,iS3,iS4⟩:=info_parts rW
       clear hf
       go_wp2_with (at_builtin;refine wpList_append_own _ rfl _ _ 23 rfl wx.heap.size 9 iS _ 1 16 Tryz.underlying23 iS1 iS2 iS3 iS4 rfl (by decide) (.slice (some ⟨wx.heap.size,0,none⟩) 2 2) 2 (strs [an,af]) rfl (own_below HOY.o ((aG wy.heap.size wy).alloc (aF _) _)) ⟨wy.heap.size,0,none⟩ 1 1 [.string ac] rfl rfl (bz (aH wy _)) DY (by decide) (by decide) (aS (aaG HOY.o) (dV wy _ _).size) ?_)
       intro v' w9 ZL U5 _
       have HB9:Hid (Below wr.heap.size wr w9):=ae ((D5.o.alloc D5.o.size _).grown U5 (aS D5.o.size (dV wy _ _).size) (fun k e=>aS hxs.o (HOY.o.lt k e).1))
       obtain⟨A9,c9,e9,IV,hL9⟩:=oH ZL (S:=fun k=>k<w9.drew.heap.size) (fun k h1 h2=>h2)
       subst e9
       have HL9:=ae hL9
       clear ZL U5 hL9
       have jW:Hid (Below wr.heap.size wr w9.drew):=ae HB9.o.drew
       have lG:=ae (su (A:=A9) (c:=c9) (n:=3) (l:=[an,af,ac]) (w:=w9.drew) rfl (by decide) (RP HL9.o))
       have g0:=(dN (HK.o.bel HB9.o).box).1.2.2.2.1
       generalize JL:iO [an,af,ac]=y at *
       have HYY:=ae JL
       clear JL
       obtain⟨uk,us,un,ul,uo⟩:=y
       go_upto_region 31 with (fail)
       go_region_law (first
        | (refine step_append_lies _ rfl _ _ _ rfl w3.heap.size 71 i0 _ 5 64 Tryz.underlying69 hi hz0 hz1 hz2 rfl (by decide) _ _ _ rfl (nM.o.own.alloc _) ⟨w6.heap.size,0,none⟩ 1 1 (TP.cs ((.mk uk us un ul uo:T),A6,c6)) rfl rfl (bz (aH w6 _)) (by rw[←fB];exact fF _) (by decide) (Ef hpl2.o) (xR hpl2.o) Eg.o _ rfl ?_;intro g' cap w7 jo hgrow hat Gg
           have Gh:=ae jo
           have xu:Hid (w6.grownBy w7 v.ownBlock):=ae ((World.grownBy_alloc _ _ _).trans hgrow)
           have tX:Hid ((Value.slice (some ⟨g',0,none⟩) (ps.length+1) cap).ownBlock=v.ownBlock∨∃ n,(Value.slice (some ⟨g',0,none⟩) (ps.length+1) cap).ownBlock=some n∧w6.heap.size≤n):=ae (hat.imp (fun h=>h.symm) fun h=>⟨g',rfl,by rw[h];exact (dV w6 _ _).size⟩)
           have FP:=ae ((xu.o.block w5.heap.size nM.o.lt (fun e=>nM.o.CG e.symm)).trans nM.o.box)
           obtain⟨⟨p0,p1,p2,p3,p4⟩,q0,q1,q2,q3,q4⟩:=dN FP.o
           clear jo hgrow hat)
        | (go_simp;go_at_call 68;refine (lG.o).mono ?_;rintro e w6 ⟨⟨A6,c6,rfl,hc6,Eh⟩,hb6⟩
           simp only[T.val,T.k,T.s,T.n,T.kids,T.at_]
           have nM:=ae (HK.o.bel (jW.o.trans (hb6.mono jW.o.size)))
           have Eg:Hid (w3.heap.size≤(w6.alloc (.cells #[.int .i64 uk,.string us,.int .i64 un,.slice A6 ul.length c6,.int .i64 uo] 71)).heap.size):=ae (aS (aS tV.o (bV nM.o.lt)) (dV w6 _ _).size)
           have g3:w6.cell? ⟨w5.heap.size,3,none⟩=some v:=(dN nM.o.box).1.2.2.2.1
           have Ua:(w6.alloc (.cells #[.int .i64 uk,.string us,.int .i64 un,.slice A6 ul.length c6,.int .i64 uo] 71)).cell? ⟨w5.heap.size,3,none⟩=some v:=(World.cell?_alloc_some _ _ _ (by rw[g3];rfl)).trans g3
           have Gi:=ae Eh
           have AU:=ae hc6
           clear Eh hc6
           clear hb6))
       all_goals
        go_wp2_with fail
        go_roundw
        case measure=>exact AL hlt
        case rel=>exact⟨j+1,hlt,by simp,_,_,nM.o.step (xs:=[((.mk uk us un ul uo:T),A6,c6)]) (sz:=wr.heap.size) xu.o (by rw[fB];exact Gh.o) tX.o (AO AU.o (Gi.o.mono fun k hk=>⟨aS jW.o.size hk.1,hk.2⟩)) (aS tV.o (bV HK.o.lt)) HK.o.lt KT.o,by rw[List.map_append,uK.o,htk.o,hag.o,HYY.o];rfl⟩
     ·go_wp2_with fail
      go_meet
      case rel=>exact⟨rfl,v,ps,HK.o,by rw[uK.o,hmid.o,bJ (by have:=Uc.o;omega)];rfl⟩
 case rest =>
  obtain⟨rfl,v0,ps0,hK0,hps0⟩:=hcut
  have HK0:=ae hK0
  have aaH:=ae hps0
  have HP0:=ae ((hK0.below.block w.heap.size hs0).trans Hw.o)
  have hml:=ae (U1 (k:=k) (nm:=nm) (left:=left) (right:=right) U3.o X0.o Uc.o l1 l2 l5 Q5.o)
  generalize hmp:T.mk 2 wk 0 [] 0::mF k nm ex cols left right ag=base at *
  have hbl:Hid (base.length≤602):=ae (by rw[←hmp,bf];exact Nat.succ_le_succ hml.o)
  have hfin:Hid (jM (T.mk 2 wk 0 [] 0::(mF k nm ex cols left right ag++kK kids))=jM (base++kids.map fD)):=ae (by rw[←hmp,tJ];rfl)
  clear hK0 hps0 hmp
  have d7:=(dO HP0.o).c7
  go_wp2_with fail
  go_loopw [146] (fun i wr=>∃ j:Nat,j≤kl∧i=.int .i64 j∧Xk w1 w5.heap.size w3.heap.size (base++(kids.take j).map fD) wr) (fun i _=>kl-(intOf i).toNat)
  case atStart=>exact⟨0,aX _,rfl,_,_,HK0.o,by rw[aaH.o];simp⟩
  case round =>
   obtain⟨j,hj,rfl,v,ps,hK,hps⟩:=hrel
   have HK:=ae hK
   have uK:=ae hps
   have KT:=ae (fun k (e:v.ownBlock=some k)=>(HK.o.own.lt k e).2)
   have gZ:=ae (HB1.o.trans (HK.o.below.mono (bV hs1)))
   have RQ:=ae ((HK.o.below.block w.heap.size hs0).trans Hw.o)
   clear hK hps
   have hpl2:=ae (Qm (k:=602) uK.o rfl hbl.o ZK.o hj l6)
   by_cases hlt:j<kl
   ·obtain⟨x,hx⟩:=get_some ZK.o hlt
    obtain⟨b,o,aq,rfl,IU,hcs,hat⟩:=Nu.o.at hx
    have hcw:∀ i u,(x.cs aq)[i]?=some u→wr.cell? ⟨b,o+j*8+i,none⟩=some u:=fun i u hu=>(gZ.o.cell (p:=⟨b,o+j*8+i,none⟩) IU).trans (hcs i u hu)
    have m0:=hcw 0 _ rfl
    have m1:=hcw 1 _ rfl
    have m2:=hcw 2 _ rfl
    have m3:=hcw 3 _ rfl
    have m4:=hcw 4 _ rfl
    have m5:=hcw 5 _ rfl
    have m6:=hcw 6 _ rfl
    have m7:=hcw 7 _ rfl
    rw[Nat.add_zero] at m0
    have htk:=ae (KU fD base hx)
    obtain⟨wx,iK⟩:∃ wx,wx=wr.alloc (.cells #[.int .i64 x.k,.string x.nm,.slice aq.ea x.ex.length aq.ec,.slice aq.ca x.cols.length aq.cc,.slice aq.la x.left.length aq.lc,.slice aq.ra x.right.length aq.rc,.slice aq.ga x.ag.length aq.gc,.slice aq.ka x.kids.length aq.kc] 27):=⟨_,rfl⟩
    have hbx:Below wr.heap.size wr wx:=by rw[iK];exact (aG _ _).alloc (aF _) _
    have hnx:wx.heap[wr.heap.size]?=some (.cells #[.int .i64 x.k,.string x.nm,.slice aq.ea x.ex.length aq.ec,.slice aq.ca x.cols.length aq.cc,.slice aq.la x.left.length aq.lc,.slice aq.ra x.right.length aq.rc,.slice aq.ga x.ag.length aq.gc,.slice aq.ka x.kids.length aq.kc] 27 (0,0)):=by rw[iK];exact aH wr _
    have hbw:=gZ.o.trans (hbx.mono gZ.o.size)
    have hcl:=HM.o x (aN hx) (HMK.o x (aN hx)) (HFK.o x (aN hx)) aq wx.drew ((hat.kept (w':=wx.drew) fun k hk=>hbw.block k hk).mono fun k hk=>aK hk hbw.size)
    simp only[P.val] at hcl
    have lG:=ae hcl
    have jW:Hid (Below wr.heap.size wr wx.drew):=ae hbx.drew
    have g0:=(dN (HK.o.bel hbx).box).1.2.2.2.1
    have ni:=ae iK
    obtain⟨z0,z1,z2,z3,z4,z5,z6,z7,_,_,_,_,_,_,_,_⟩:=dO hnx
    obtain⟨y,hy⟩:∃ y,y=fD x:=⟨_,rfl⟩
    rw[←hy] at lG htk
    clear iK hbx hnx hx hat hcs hcw hbw hcl hy
    obtain⟨tk,ts,tn,tl,ta⟩:=y
    generalize x.k=xk at *
    generalize x.nm=JH at *
    generalize x.ex.length=x1 at *
    generalize x.cols.length=x2 at *
    generalize x.left.length=x3 at *
    generalize x.right.length=x4 at *
    generalize x.ag.length=x5 at *
    generalize x.kids.length=x6 at *
    obtain⟨qa,qb,qc,qd,qe,qf,qg,qh,qi,qj,qk,ql⟩:=aq
    simp only at m0 m1 m2 m3 m4 m5 m6 m7 z0 z1 z2 z3 z4 z5 z6 z7 lG ni
    go_upto_region 36 with (fail)
    rw[←ni.o]
    go_region_law (first
     | (refine step_append_lies _ rfl _ _ _ rfl w3.heap.size 71 i0 _ 5 64 Tryz.underlying69 hi hz0 hz1 hz2 rfl (by decide) _ _ _ rfl (nM.o.own.alloc _) ⟨w6.heap.size,0,none⟩ 1 1 (TP.cs ((.mk tk ts tn tl ta:T),A6,c6)) rfl rfl (bz (aH w6 _)) (by rw[←fB];exact fF _) (by decide) (Ef hpl2.o) (xR hpl2.o) Eg.o _ rfl ?_;intro g' cap w7 jo hgrow hat Gg
        have Gh:=ae jo
        have xu:Hid (w6.grownBy w7 v.ownBlock):=ae ((World.grownBy_alloc _ _ _).trans hgrow)
        have tX:Hid ((Value.slice (some ⟨g',0,none⟩) (ps.length+1) cap).ownBlock=v.ownBlock∨∃ n,(Value.slice (some ⟨g',0,none⟩) (ps.length+1) cap).ownBlock=some n∧w6.heap.size≤n):=ae (hat.imp (fun h=>h.symm) fun h=>⟨g',rfl,by rw[h];exact (dV w6 _ _).size⟩)
        have FP:=ae ((xu.o.block w5.heap.size nM.o.lt (fun e=>nM.o.CG e.symm)).trans nM.o.box)
        obtain⟨⟨p0,p1,p2,p3,p4⟩,q0,q1,q2,q3,q4⟩:=dN FP.o
        clear jo hgrow hat)
     | (go_simp;go_at_call 32;refine (lG.o).mono ?_;rintro e w6 ⟨⟨A6,c6,rfl,hc6,Eh⟩,hb6⟩
        simp only[T.val,T.k,T.s,T.n,T.kids,T.at_]
        have nM:=ae (HK.o.bel (jW.o.trans (hb6.mono jW.o.size)))
        have Eg:Hid (w3.heap.size≤(w6.alloc (.cells #[.int .i64 tk,.string ts,.int .i64 tn,.slice A6 tl.length c6,.int .i64 ta] 71)).heap.size):=ae (aS (aS tV.o (bV nM.o.lt)) (dV w6 _ _).size)
        have g3:w6.cell? ⟨w5.heap.size,3,none⟩=some v:=(dN nM.o.box).1.2.2.2.1
        have Ua:(w6.alloc (.cells #[.int .i64 tk,.string ts,.int .i64 tn,.slice A6 tl.length c6,.int .i64 ta] 71)).cell? ⟨w5.heap.size,3,none⟩=some v:=(World.cell?_alloc_some _ _ _ (by rw[g3];rfl)).trans g3
        have Gi:=ae Eh
        have AU:=ae hc6
        clear Eh hc6
        clear hb6))
    all_goals
     go_wp2_with fail
     go_roundw
     case measure=>exact AL hlt
     case rel=>exact⟨j+1,hlt,by simp,_,_,nM.o.step (xs:=[((.mk tk ts tn tl ta:T),A6,c6)]) (sz:=wr.heap.size) xu.o (by rw[fB];exact Gh.o) tX.o (AO AU.o (Gi.o.mono fun k hk=>⟨aS jW.o.size hk.1,hk.2⟩)) (aS tV.o (bV HK.o.lt)) HK.o.lt KT.o,by rw[List.map_append,uK.o,htk.o];rfl⟩
   ·have he:Hid (ps.map Prod.fst=base++kids.map fD):=ae (by rw[uK.o,bJ (by have:=ZK.o;omega)])
    obtain⟨A9,c9,rfl,IV,yu⟩:=Ql HK.o (by have:=hpl2.o;omega)
    rw[he.o] at IV yu
    have HK9:=ae HK.o.box
    rw[he.o] at HK9
    have GI:=ae yu
    have G8:=ae ((HK.o.below.block _ hs2).trans HR1.o)
    have ag5:=ae HK.o.below
    generalize hLL:base++kids.map fD=LL at *
    obtain⟨⟨k0,k1,k2,k3,k4⟩,f0,f1,f2,f3,f4⟩:=dN HK9.o
    obtain⟨⟨q0,q1,q2,q3,q4⟩,e0,e1,e2,e3,e4⟩:=dN G8.o
    clear HK yu hpl2 hLL
    go_wp2_with fail
    refine aJ (jw rfl rfl (dR G8.o)) rfl ?_
    rw[hfin.o]
    exact Ja HB1.o ag5.o IV GI.o (aW _) hs2 ⟨rfl,rfl,rfl,rfl,rfl⟩
theorem AX:∀ p,I9 p:=P.ind Oo
end Go.Proofs.YtjhkihkiebnpaaaGreatDoor
