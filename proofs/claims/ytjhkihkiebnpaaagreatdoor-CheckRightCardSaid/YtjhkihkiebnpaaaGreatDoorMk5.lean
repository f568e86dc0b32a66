/-
  Package plan: tree.
-/
import Derived.Test.YtjhkihkiebnpaaaGreatDoorMk4
set_option linter.unusedVariables false
set_option linter.unusedSimpArgs false
set_option maxRecDepth 100000
set_option maxHeartbeats 40000000
namespace Go.Proofs.YtjhkihkiebnpaaaGreatDoor
open Go.RowKit
inductive Cj:P→Prop
 | mk (k:Int)(nm:ByteArray)(ex:List E)(cols left right:List ByteArray)(ag:List Ag)(kids:List P)(l1:ex.length≤600)(l2:cols.length≤600)(l3:left.length≤600)(l4:right.length≤600)(l5:ag.length≤600)(l6:kids.length≤600)(h:∀ p∈kids,Cj p):Cj (.mk k nm ex cols left right ag kids)
def GG (p:P):Prop:=Ai p→Cj p→∀ (a:PA)(w:World),jS w (fun k=>k<w.heap.size) p a→Calls Tryz.prog 32 #[p.val a] w (mr w (aV p))
theorem zq {x:T} {A:Option Addr} {c:Nat} {w:World} {S:Nat→Prop} (hc:x.kids.length≤c)(hX:ku w S A x.kids):∀ p∈[((x,A,c):TP)],p.1.kids.length≤p.2.2∧ku w S p.2.1 p.1.kids:=fun p hp=>by
 rw [List.mem_singleton.1 hp]
 exact ⟨hc,hX⟩
theorem Wl {w0 w3 w5:World} {s:ByteArray} (hb:Below w0.heap.size w0 w3)(h5:Below (w3.alloc (.cells #[.int .i64 2,.string s,.int .i64 0,.slice none 0 0,.int .i64 0] 71)).heap.size (w3.alloc (.cells #[.int .i64 2,.string s,.int .i64 0,.slice none 0 0,.int .i64 0] 71)) w5) :
 Rq w0 w5.heap.size w3.heap.size (.slice (some ⟨w3.heap.size,0,none⟩) 1 1) [((.mk 2 s 0 [] 0:T),none,0)] (w5.alloc (.cells #[.int .i64 1,.string ⟨#[]⟩,.int .i64 0,.slice (some ⟨w3.heap.size,0,none⟩) 1 1,.int .i64 0] 71)):=by
 have hs5:=h5.size
 have h3:w3.heap.size<w5.heap.size:=by
  have:(w3.alloc (.cells #[.int .i64 2,.string s,.int .i64 0,.slice none 0 0,.int .i64 0] 71)).heap.size=w3.heap.size+1:=by simp
  omega
 have hs0:=hb.size
 have hbl:(w5.alloc (.cells #[.int .i64 1,.string ⟨#[]⟩,.int .i64 0,.slice (some ⟨w3.heap.size,0,none⟩) 1 1,.int .i64 0] 71)).heap[w3.heap.size]?=some (.cells #[.int .i64 2,.string s,.int .i64 0,.slice none 0 0,.int .i64 0] 71 (0,0)) :=
  (ant w5 _ _ h3).trans ((h5.block _ (by simp)).trans (anm w3 _))
 refine ⟨anm w5 _,⟨rfl,.inr ⟨w3.heap.size,1,_,rfl,ank _,hbl,ank _,by decide,rfl,rfl⟩⟩,pG s _ _,by simp [Value.ownBlock];omega,?_,by omega,hs0⟩
 exact ((hb.trans ((aG w3 _ _).mono hs0)).trans (h5.mono (by simp;omega))).alloc (by omega) _
theorem xU {ps:List TP} {L:List T} {j:Nat} (h:ps.map Prod.fst=L)(hL:L.length=j):ps.length=j:=by rw [←hL,←h,List.length_map]
theorem Wn {α:Type} (f:α→T)(x:T) {l:List α} {n j:Nat} (h:n=l.length)(hj:j≤n):(x::(l.take j).map f).length=j+1:=by
 rw [List.length_cons,List.length_map,List.length_take]
 omega
theorem Tv {α:Type} (f:α→T)(x:T) {l:List α} {j:Nat} {y:α} (h:l[j]?=some y):x::(l.take (j+1)).map f=(x::(l.take j).map f)++[f y]:=by rw [take_snoc h,List.map_append];rfl
theorem Wp {α:Type} (f:α→T)(x:T) {l:List α} {n j:Nat} (h:n=l.length)(hn:¬j<n):x::(l.take j).map f=x::l.map f:=by rw [List.take_of_length_le (by omega)]
theorem P7 {w:World} {s0 s1 s2 s3 s4 s5 s6 s7:Value} {k:Int} {g:Nat} {t:TypeId} (hb:w.heap[g]?=some (.cells #[.string ⟨#[]⟩,.string ⟨jU.toArray⟩,.string ⟨iK.toArray⟩,.string ⟨ig.toArray⟩,.string ⟨nS.toArray⟩,.string ⟨jJ.toArray⟩,.string ⟨dW.toArray⟩,.string ⟨kK.toArray⟩] t (0,0)))(h1:1≤k)(h7:k≤7) :
 w.cell? ⟨g,k.toNat,none⟩=some (.string ⟨(nY k).toArray⟩):=by
 obtain rfl | rfl | rfl | rfl | rfl | rfl | rfl:k=1∨k=2∨k=3∨k=4∨k=5∨k=6∨k=7:=by omega
 all_goals (simp [World.cell?,hb];rfl)
theorem ab9 {n:Nat} (h:n≤2000):n+2≤maxLen:=by unfold maxLen;omega
theorem Cm {n:Nat} (h:n≤2000):n+1≤maxLen:=by unfold maxLen;omega
theorem Zg {n:Nat} (h:n≤2000):(n+2)*64≤140737488355328:=by omega
theorem vS {n:Nat} (h:n≤2000):(n+1)*64≤140737488355328:=by omega
theorem aca {n j m:Nat} (h:n=j+1)(hj:j≤m)(hm:m≤600):n≤2000:=by omega
theorem pM {A:Option Addr} {c n:Nat} {l:List ByteArray} {w:World} (hn:n=l.length)(hl:n≤600)(h:Lies w (fun k=>k<w.heap.size) A (strs l)):Calls Tryz.prog 68 #[.slice A n c] w (mr w (dX l)):=by
 subst hn
 exact Tu l hl A c w h
theorem Tz {x y:T} {A B:Option Addr} {c d:Nat} {w:World} {S:Nat→Prop} (hc:x.kids.length≤c)(hX:ku w S A x.kids)(hd:y.kids.length≤d)(hY:ku w S B y.kids):∀ p∈[((x,A,c):TP),(y,B,d)],p.1.kids.length≤p.2.2∧ku w S p.2.1 p.1.kids:=fun p hp=>by
 rcases List.mem_cons.1 hp with rfl | hp
 ·exact ⟨hc,hX⟩
 ·rw [List.mem_singleton.1 hp]
  exact ⟨hd,hY⟩
theorem xW {cols:List ByteArray} {ex:List E} (h:cols.length≤ex.length):(pK cols ex).length=cols.length:=by
 unfold pK
 rw [List.length_zipWith]
 omega
theorem Wq {x:T} {cols:List ByteArray} {ex:List E} {cl el j:Nat} (h1:cl=cols.length)(h2:el=ex.length)(h:cl≤el)(hj:j≤cl):(x::(pK cols ex).take j).length=j+1:=by
 rw [List.length_cons,List.length_take,xW (by omega)]
 omega
theorem TA (x:T) {cols:List ByteArray} {ex:List E} {j:Nat} {c:ByteArray} {e:E} (hc:cols[j]?=some c)(he:ex[j]?=some e):x::(pK cols ex).take (j+1)=(x::(pK cols ex).take j)++[.mk 1 ⟨#[]⟩ 0 [.mk 2 c 0 [] 0,dm e] 0]:=by
 rw [take_snoc (x:=Jc c e) (by unfold pK;rw [List.getElem?_zipWith,hc,he])]
 rfl
theorem Ws {wk:ByteArray} {cols:List ByteArray} {ex:List E} {cl el j:Nat} (h1:cl=cols.length)(h2:el=ex.length)(h:cl≤el)(hn:¬j<cl):(T.mk 2 wk 0 [] 0::(pK cols ex).take j)=.mk 2 wk 0 [] 0::pK cols ex:=by
 rw [List.take_of_length_le (by rw [xW (by omega)];omega)]
theorem Wu {X Y:TP} {q sz:Nat} {wb wq w6:World} {t:TypeId} (hq:wq.heap[q]?=some (.cells #[.int .i64 X.1.k,.string X.1.s,.int .i64 X.1.n,.slice X.2.1 X.1.kids.length X.2.2,.int .i64 X.1.at_,.int .i64 Y.1.k,.string Y.1.s,.int .i64 Y.1.n,.slice Y.2.1 Y.1.kids.length Y.2.2,.int .i64 Y.1.at_] t (0,0)))
 (h6:w6.heap[q]?=wq.heap[q]?)(hlt:q<w6.heap.size)(hsz:sz≤q)(hX:∀ p∈[X],p.1.kids.length≤p.2.2∧ku wb (fun k=>sz≤k∧k<wb.heap.size) p.2.1 p.1.kids)(hcY:Y.1.kids.length≤Y.2.2)(hY:ku wb (fun k=>sz≤k∧k<wb.heap.size) Y.2.1 Y.1.kids)(hb:Below wb.heap.size wb w6) :
 ku w6 (fun k=>sz≤k∧k<w6.heap.size) (some ⟨q,0,none⟩) [X.1,Y.1]:=by
 have hs:=hb.size
 have hk:∀ {A l},ku wb (fun k=>sz≤k∧k<wb.heap.size) A l→ku w6 (fun k=>sz≤k∧k<w6.heap.size) A l:=fun h=>(h.kept fun k hk=>hb.block k hk.2).mono fun k hk=>⟨hk.1,by have:=hk.2;omega⟩
 obtain ⟨hcX,hX⟩:=hX X (List.mem_singleton.2 rfl)
 have hown:w6.ownsRow q t 5 (.slice (some ⟨q,0,none⟩) 2 2) ([X,Y]:List TP).length (aO [X,Y]):=⟨rfl,.inr ⟨q,2,_,rfl,ank _,h6.trans hq,ank _,by decide,rfl,rfl⟩⟩
 obtain ⟨A,c,e,_,h⟩:=oV hown (by simp) (S:=fun k=>sz≤k∧k<w6.heap.size) (fun k k1 k2=>⟨by omega,k2⟩) (Tz (x:=X.1) (A:=X.2.1) (c:=X.2.2) (y:=Y.1) (B:=Y.2.1) (d:=Y.2.2) hcX (hk hX) hcY (hk hY))
 obtain rfl:A=some ⟨q,0,none⟩:=by injection e with e;exact e.symm
 exact h
theorem Jh {α:Type} (f:α→T)(L:List T) {l:List α} {j:Nat} {y:α} (h:l[j]?=some y):L++(l.take (j+1)).map f=(L++(l.take j).map f)++[f y]:=by rw [take_snoc h,List.map_append,List.append_assoc];rfl
theorem Ol {α:Type} {f:α→T} {ps:List TP} {L L':List T} {l:List α} {n j k:Nat} (h:ps.map Prod.fst=L)(hL:L=L'++(l.take j).map f)(hk:L'.length≤k)(hn:n=l.length)(hj:j≤n)(h6:n≤600)(hk6:k≤602:=by decide):ps.length≤2000:=by
 have:=congrArg List.length h
 rw [List.length_map,hL,List.length_append,List.length_map,List.length_take] at this
 omega
theorem zt (l:List Ag):∀ (i:Nat)(v:Ag),l[i]?=some v→∀ j u,(Ag.cs v)[j]?=some u→(fB l)[i*3+j]?=some u:=by
 induction l with
 | nil=>intro i v h;simp at h
 | cons x l ih =>
   intro i v h j u hj
   have e:fB (x::l)=Ag.cs x++fB l:=rfl
   have hl:∀ y:Ag,(Ag.cs y).length=3:=fun _=>rfl
   have hj3:j<3:=by have:=(List.getElem?_eq_some_iff.1 hj).1;rw [hl] at this;exact this
   rw [e]
   cases i with
   | zero =>
     obtain rfl:x=v:=by simpa using h
     rw [Nat.zero_mul,Nat.zero_add,List.getElem?_append_left (by rw [hl];exact hj3)]
     exact hj
   | succ i =>
     rw [List.getElem?_append_right (by rw [hl];omega),hl,show (i+1)*3+j-3=i*3+j by omega]
     exact ih i v (by simpa using h) j u hj
theorem Wv {w:World} {S:Nat→Prop} {A:Option Addr} {l:List Ag} (h:Lies w S A (fB l)) {j:Nat} {x:Ag} (hx:l[j]?=some x) :
 ∃ b o,A=some ⟨b,o,none⟩∧S b∧w.cell? ⟨b,o+j*3,none⟩=some (.string x.nm)∧w.cell? ⟨b,o+j*3+1,none⟩=some (.string x.fn)∧w.cell? ⟨b,o+j*3+2,none⟩=some (.string x.vw):=by
 rcases h with h | ⟨b,o,hA,hb,hc⟩
 ·have:=EL l
  rw [h] at this
  have hl:l=[]:=List.eq_nil_of_length_eq_zero (by simp at this;omega)
  subst hl
  simp at hx
 ·have h0:=hc _ _ (zt l j x hx 0 _ rfl)
  have h1:=hc _ _ (zt l j x hx 1 _ rfl)
  have h2:=hc _ _ (zt l j x hx 2 _ rfl)
  exact ⟨b,o,hA,hb,h0,h1,h2⟩
theorem Zh {an af ac:ByteArray} (h:af.toList=[99,111,117,110,116]):vP ⟨an,af,ac⟩=[an,af]:=by
 exact if_pos h
theorem Zi {an af ac:ByteArray} (h:¬af.toList=[99,111,117,110,116]):vP ⟨an,af,ac⟩=[an,af,ac]:=by
 exact if_neg h
theorem P8 {w:World} {base:Nat} {e:TypeId} {z b c n:Nat} {vs:List Value} (h:w.ownsRow base e z (.slice (some ⟨b,0,none⟩) n c) n vs):Lies w.drew (fun k=>k<w.drew.heap.size) (some ⟨b,0,none⟩) vs:=by
 obtain ⟨A,c',e,_,hL⟩:=lQ h (S:=fun k=>k<w.heap.size) (fun k h1 h2=>h2)
 obtain rfl:some ⟨b,0,none⟩=A:=by injection e with e
 exact hL.kept (w':=w.drew) (fun _ _=>rfl)
theorem P9 {w:World} {S:Nat→Prop} {A:Option Addr} {vs:List Value} (h:Lies w S A vs):Lies w.drew S A vs:=h.kept (w':=w.drew) (fun _ _=>rfl)
theorem Zj {w:World} {base:Nat} {e:TypeId} {z b c n:Nat} {vs:List Value} (h:w.ownsRow base e z (.slice (some ⟨b,0,none⟩) n c) n vs):base≤w.heap.size:=by
 have:=h.lt b rfl
 omega
theorem TB {k:Int} {nm:ByteArray} {ex:List E} {cols left right:List ByteArray} {ag:List Ag} {el cl gl:Nat} (h1:el=ex.length)(h2:cl=cols.length)(h5:gl=ag.length)(l1:el≤600)(l2:cl≤600)(l5:gl≤600)(hc:cl≤el):(jV k nm ex cols left right ag).length≤601:=by
 unfold jV
 repeat' split
 all_goals first
  | (rw [xW (by omega)];omega)
  | (simp only [List.length_cons,List.length_map,List.length_nil];omega)
theorem GH {w w1 wr:World} {A:Option Addr} {c p:Nat} {L:List T} {x0 x1 x2 x3 x4:Value} (hb:Below w.heap.size w w1)(hr:Below w1.heap.size w1 wr)(hc:L.length≤c)(hX:ku wr (fun k=>w1.heap.size≤k∧k<wr.heap.size) A L)(hp:w.heap.size≤p)(hp1:p<w1.heap.size)
 (hx:x0=.int .i64 1∧x1=.string ⟨#[]⟩∧x2=.int .i64 0∧x3=.slice A L.length c∧x4=.int .i64 0):mr w (kP L) (.returned (.agg #[x0,x1,x2,x3,x4])) (Iz wr p x0 x1 x2 x3 x4):=by
 obtain ⟨rfl,rfl,rfl,rfl,rfl⟩:=hx
 have hs:=hb.size
 refine ⟨⟨A,c,rfl,hc,?_⟩,aC (hb.trans (hr.mono hs)) hp⟩
 exact (hX.kept (fun k hk=>kZ (by have:=hk.1;omega))).mono (fun k hk=>⟨by have:=hk.1;omega,by rw [oW];exact hk.2⟩)
theorem seven {k:Int} (h1:1≤k)(h7:k≤7):k=1∨k=2∨k=3∨k=4∨k=5∨k=6∨k=7:=by omega
theorem Mc (k:Int)(nm:ByteArray)(ex:List E)(cols left right:List ByteArray)(ag:List Ag)(kids:List P)(hM:∀ p∈kids,GG p):GG (.mk k nm ex cols left right ag kids):=by
 intro iL hfew a w hat
 obtain ⟨_,_,_,_,_,_,_,_,hk1,hk7,hex,hcl,hmk⟩:=iL
 obtain ⟨_,_,_,_,_,_,_,_,l1,l2,l3,l4,l5,l6,hfk⟩:=hfew
 obtain ⟨⟨hE,hC,TC,hR,hG,_,_,_,_,_⟩,Ih⟩:=hat
 obtain ⟨ea,ec,ca,cc,la,lc,ra,rc,ga,gc,ka,kc⟩:=a
 have htp:aV (.mk k nm ex cols left right ag kids)=kP (.mk 2 ⟨(nY k).toArray⟩ 0 [] 0::(jV k nm ex cols left right ag++iF kids)):=by rw [aV,if_neg (by omega)];rfl
 rw [htp]
 simp only [P.val,P.k,P.nm,P.ex,P.cols,P.left,P.right,P.ag,P.kids] at hE hC TC hR hG Ih ⊢
 generalize hel:ex.length=el at *
 generalize hcl':cols.length=cl at *
 generalize hll:left.length=ll at *
 generalize hrl:right.length=rl at *
 generalize hgl:ag.length=gl at *
 generalize hkl:kids.length=kl at *
 obtain ⟨wa,nC⟩:∃ wa,wa=w.alloc (.cells #[.int .i64 k,.string nm,.slice ea el ec,.slice ca cl cc,.slice la ll lc,.slice ra rl rc,.slice ga gl gc,.slice ka kl kc] 27):=⟨_,rfl⟩
 have hba:Below w.heap.size w wa:=by rw [nC];exact (anl _ _).alloc (ank _) _
 have hsa:wa.heap.size=w.heap.size+1:=by rw [nC];simp
 have hxa:wa.heap[w.heap.size]?=some (.cells #[.int .i64 k,.string nm,.slice ea el ec,.slice ca cl cc,.slice la ll lc,.slice ra rl rc,.slice ga gl gc,.slice ka kl kc] 27 (0,0)):=by rw [nC];exact anm w _
 obtain ⟨w1,aK⟩:∃ w1,w1=wa.alloc (.cells #[.int .i64 0,.string ⟨#[]⟩,.int .i64 0,.slice none 0 0,.int .i64 0] 71):=⟨_,rfl⟩
 have hb1:Below wa.heap.size wa w1:=by rw [aK];exact (anl _ _).alloc (ank _) _
 have hs1':w1.heap.size=w.heap.size+1+1:=by rw [aK];simp;omega
 have HR1:Hid (w1.heap[w.heap.size+1]?=some (.cells #[.int .i64 0,.string ⟨#[]⟩,.int .i64 0,.slice none 0 0,.int .i64 0] 71 (0,0))):=anc (by rw [aK,←hsa];exact anm wa _)
 have Fq:Hid (w1.heap[w.heap.size]?=some (.cells #[.int .i64 k,.string nm,.slice ea el ec,.slice ca cl cc,.slice la ll lc,.slice ra rl rc,.slice ga gl gc,.slice ka kl kc] 27 (0,0))):=anc ((hb1.block _ (by omega)).trans hxa)
 have HB1:Hid (Below w.heap.size w w1):=anc (hba.trans (hb1.mono (by omega)))
 have HW1:=anc (show w1=(w.alloc (.cells #[.int .i64 k,.string nm,.slice ea el ec,.slice ca cl cc,.slice la ll lc,.slice ra rl rc,.slice ga gl gc,.slice ka kl kc] 27)).alloc (.cells #[.int .i64 0,.string ⟨#[]⟩,.int .i64 0,.slice none 0 0,.int .i64 0] 71) by rw [aK,nC])
 have hs1:w.heap.size<w1.heap.size:=by omega
 have hs0:=hs1
 have hs2:w.heap.size+1<w1.heap.size:=by omega
 obtain ⟨w2,uT⟩:∃ w2,w2=w1.alloc (.cells #[.string ⟨#[]⟩,.string ⟨jU.toArray⟩,.string ⟨iK.toArray⟩,.string ⟨ig.toArray⟩,.string ⟨nS.toArray⟩,.string ⟨jJ.toArray⟩,.string ⟨dW.toArray⟩,.string ⟨kK.toArray⟩] 9):=⟨_,rfl⟩
 have hb2:Below w1.heap.size w1 w2:=by rw [uT];exact (anl _ _).alloc (ank _) _
 have hwc:=anc (P7 (k:=k) (s0:=undef) (s1:=undef) (s2:=undef) (s3:=undef) (s4:=undef) (s5:=undef) (s6:=undef) (s7:=undef) (show w2.heap[w1.heap.size]?=_ by rw [uT];exact anm w1 _) hk1 hk7)
 have HB2:=anc hb2
 have HW2:=anc uT
 have HP2:=anc ((hb2.block w.heap.size hs0).trans Fq.out)
 have n1:¬k<1:=by omega
 have n7:¬7<k:=by omega
 have n8:k<8:=by omega
 have n0:0≤k:=by omega
 have HEX:=anc hex
 have Qa:=anc hel.symm
 have Wx:=anc hcl'.symm
 have KA:=anc hll.symm
 have HRL:=anc hrl.symm
 have Rt:=anc hgl.symm
 have Yu:=anc hkl.symm
 have HM:=anc hM
 have YR:=anc hmk
 have HFK:=anc hfk
 have HE:=anc (hE.to fun k h=>h)
 have Yv:=anc hC
 have HLF:=anc TC
 have HRI:=anc hR
 have HG:=anc hG
 have KH:=anc Ih
 have KC:=anc hcl
 obtain ⟨i0,hi,hz0,hz1,hz2⟩:=info_parts mV
 clear nC hba hsa hxa aK hb1 hs1' uT hb2 htp hex hel hcl' hll hrl hgl hkl hM hmk hfk hE hC TC hR hG Ih hcl wa
 have hwa:=anc (fun s w=>Je s w)
 have hwo:=anc (fun A n c w=>open_any A n c w)
 obtain ⟨wk,hwk⟩:∃ wk,wk=(⟨(nY k).toArray⟩:ByteArray):=⟨_,rfl⟩
 rw [←hwk] at hwc ⊢
 obtain ⟨kt,hkt⟩:∃ kt,k.toNat=kt:=⟨_,rfl⟩
 rw [hkt] at hwc
 have HWK:=anc hwk
 clear hwk
 go_enter Tryz.func32,Tryz.ntmps32
 go_upto_region 1 with (fail)
 rw [←HW1.out]
 go_upto_region 2 with (fail)
 simp only [jU,iK,ig,nS,jJ,dW,kK] at HW2
 rw [←HW2.out]
 obtain ⟨d0,d1,d2,d3,d4,d5,d6,d7,_,_,_,_,_,_,_,_⟩:=az HP2.out
 have hwc':=hwc.out
 go_wp2_with fail
 refine (hwa.out wk w2).mono ?_
 rintro e w3 ⟨rfl,hb3⟩
 have HB3:=anc (HB2.out.trans (hb3.mono HB2.out.size))
 clear hb3
 go_wp2_with fail
 refine (hwo.out _ 1 1 _).mono ?_
 rintro e w5 ⟨rfl,hb5⟩
 have HS:=anc (Wl HB3.out hb5)
 have qH:Hid (w3.heap.size≤w5.heap.size):=anc (anv (aG w3 _ _).size hb5.size)
 have HP5:=anc ((((HB3.out.trans ((aG w3 _ _).mono HB3.out.size)).trans (hb5.mono (anv HB3.out.size (aG w3 _ _).size))).block w.heap.size hs0).trans Fq.out)
 clear hb5 d0 d1 d2 d3 d4 d5 d6 d7 hwc' hkt
 obtain ⟨w8,ew8⟩:∃ w8,w8=w5.alloc (.cells #[.int .i64 1,.string ⟨#[]⟩,.int .i64 0,.slice (some ⟨w3.heap.size,0,none⟩) 1 1,.int .i64 0] 71):=⟨_,rfl⟩
 rw [←ew8] at HS
 have HW8:=anc ew8
 clear ew8
 have HP8:=anc ((HS.out.below.block w.heap.size hs0).trans Fq.out)
 go_upto_region 5 with (fail)
 rw [←HW8.out]
 obtain ⟨d0,d1,d2,d3,d4,d5,d6,d7,_,_,_,_,_,_,_,_⟩:=az HP8.out
 go_upto_block 0 with (fail)
 clear d0 d1 d2 d3 d4 d5 d6 d7
 go_cut [4] (fun s4 wx=>s4=.pointer (some ⟨w5.heap.size,0,none⟩)∧VE w1 w5.heap.size w3.heap.size (.mk 2 wk 0 [] 0::jV k nm ex cols left right ag) wx)
 case first =>
  obtain rfl | rfl | rfl | rfl | rfl | rfl | rfl:k=1∨k=2∨k=3∨k=4∨k=5∨k=6∨k=7:=seven hk1 hk7
  ·obtain ⟨v,ps,hK,hps⟩:VE w1 w5.heap.size w3.heap.size [.mk 2 wk 0 [] 0] w8:=⟨_,_,HS.out,rfl⟩
   have HK:=anc hK
   have rq:=anc hps
   have Jg:=anc (fun k (e:v.ownBlock=some k)=>(HK.out.own.lt k e).2)
   have dC:=anc (HB1.out.trans (HK.out.below.mono (Nat.le_of_lt hs1)))
   have Qb:=anc ((HK.out.below.block w.heap.size hs0).trans Fq.out)
   clear hK hps
   have hpl:=anc (xU rq.out (j:=1) rfl)
   have hpl2:=anc (show ps.length≤2000 by rw [hpl.out];decide)
   obtain ⟨d0,d1,d2,d3,d4,d5,d6,d7,_,_,_,_,_,_,_,_⟩:=az Qb.out
   have g0:=(ay HK.out.box).1.2.2.2.1
   have iJ:=anc (show Below w8.heap.size w8 w8.drew from (anl _ _).drew)
   have jq:=anc (hwa.out nm w8.drew)
   go_upto_region 7 with (fail)
   go_region_law (first
    | (refine step_append_lies _ rfl _ _ _ rfl w3.heap.size 71 i0 _ 5 64 Tryz.underlying69 hi hz0 hz1 hz2 rfl (by decide) _ _ _ rfl (kQ.out.own.alloc _) ⟨w6.heap.size,0,none⟩ 1 1 (TP.cs ((.mk 2 nm 0 [] 0:T),none,0)) rfl rfl (World.news_of_block (anm w6 _)) (by rw [←bD];exact bG _) (by decide) (Cm hpl2.out) (vS hpl2.out) CB.out _ rfl ?_;intro g' cap w7 fU hgrow hat Ee
       have Ef:=anc fU
       have uU:Hid (w6.grownBy w7 v.ownBlock):=anc ((World.grownBy_alloc _ _ _).trans hgrow)
       have qI:Hid ((Value.slice (some ⟨g',0,none⟩) (ps.length+1) cap).ownBlock=v.ownBlock∨∃ n,(Value.slice (some ⟨g',0,none⟩) (ps.length+1) cap).ownBlock=some n∧w6.heap.size≤n):=anc (hat.imp (fun h=>h.symm) fun h=>⟨g',rfl,by rw [h];exact (aG w6 _ _).size⟩)
       have DV:=anc ((uU.out.block w5.heap.size kQ.out.lt (fun e=>kQ.out.AP e.symm)).trans kQ.out.box)
       obtain ⟨⟨p0,p1,p2,p3,p4⟩,q0,q1,q2,q3,q4⟩:=ay DV.out
       clear fU hgrow hat)
    | (go_simp;go_at_call 66;refine (jq.out).mono ?_;rintro e w6 ⟨rfl,hb6⟩
       have kQ:=anc (HK.out.bel (iJ.out.trans (hb6.mono iJ.out.size)))
       have CB:Hid (w3.heap.size≤(w6.alloc (.cells #[.int .i64 2,.string nm,.int .i64 0,.slice none 0 0,.int .i64 0] 71)).heap.size):=anc (anv (anv qH.out (Nat.le_of_lt kQ.out.lt)) (aG w6 _ _).size)
       have g3:w6.cell? ⟨w5.heap.size,3,none⟩=some v:=(ay kQ.out.box).1.2.2.2.1
       have Ro:(w6.alloc (.cells #[.int .i64 2,.string nm,.int .i64 0,.slice none 0 0,.int .i64 0] 71)).cell? ⟨w5.heap.size,3,none⟩=some v:=(World.cell?_alloc_some _ _ _ (by rw [g3];rfl)).trans g3
       clear hb6))
   all_goals
    go_wp2_with fail
    go_meet
    case rel=>exact ⟨rfl,_,_,kQ.out.step (xs:=[((.mk 2 nm 0 [] 0:T),none,0)]) (sz:=w8.heap.size) uU.out (by rw [bD];exact Ef.out) qI.out (pG nm _ _) (anv qH.out (Nat.le_of_lt HK.out.lt)) HK.out.lt Jg.out,by rw [List.map_append,rq.out];rfl⟩
  ·obtain ⟨d0,d1,d2,d3,d4,d5,d6,d7,_,_,_,_,_,_,_,_⟩:=az HP8.out
   go_wp2_with fail
   go_loopw [49] (fun i wr=>∃ j:Nat,j≤el∧i=.int .i64 j∧VE w1 w5.heap.size w3.heap.size (.mk 2 wk 0 [] 0::(ex.take j).map dm) wr) (fun i _=>el-(intOf i).toNat)
   case atStart=>exact ⟨0,Nat.zero_le _,rfl,_,_,HS.out,rfl⟩
   case round =>
    obtain ⟨j,hj,rfl,v,ps,hK,hps⟩:=hrel
    have HK:=anc hK
    have rq:=anc hps
    have Jg:=anc (fun k (e:v.ownBlock=some k)=>(HK.out.own.lt k e).2)
    have dC:=anc (HB1.out.trans (HK.out.below.mono (Nat.le_of_lt hs1)))
    have Qb:=anc ((HK.out.below.block w.heap.size hs0).trans Fq.out)
    clear hK hps
    have hpl:=anc (xU rq.out (Wn dm _ Qa.out hj))
    have hpl2:=anc (aca hpl.out hj l1)
    by_cases hlt:j<el
    ·obtain ⟨x,hx⟩:=get_some Qa.out hlt
     obtain ⟨b,o,A',c',rfl,Gn,c0,c1,c2,c3,hKx⟩:=eQ.cu HE.out wr dC.out j x hx
     have htk:=anc (Tv dm (.mk 2 wk 0 [] 0) hx)
     obtain ⟨wx,dN⟩:∃ wx,wx=wr.alloc (.cells #[.int .i64 x.k,.string x.s,.int .i64 x.n,.slice A' x.kids.length c'] 38):=⟨_,rfl⟩
     have hbx:Below wr.heap.size wr wx:=by rw [dN];exact (anl _ _).alloc (ank _) _
     have hnx:wx.heap[wr.heap.size]?=some (.cells #[.int .i64 x.k,.string x.s,.int .i64 x.n,.slice A' x.kids.length c'] 38 (0,0)):=by rw [dN];exact anm wr _
     have jq:=anc (IP x (HEX.out x (anq hx)) A' c' wx.drew ((hKx.low hbx.drew).more hbx.drew.size))
     have iJ:Hid (Below wr.heap.size wr wx.drew):=anc hbx.drew
     have g0:=(ay (HK.out.bel hbx).box).1.2.2.2.1
     have jM:=anc dN
     obtain ⟨⟨n0',n1',n2',n3'⟩,_,_,_,_⟩:=bQ hnx
     obtain ⟨y,hy⟩:∃ y,y=dm x:=⟨_,rfl⟩
     rw [←hy] at jq htk
     clear dN hbx hnx hx hKx hy
     obtain ⟨xk,xs,xn,xl⟩:=x
     obtain ⟨tk,ts,tn,tl,ta⟩:=y
     simp only [E.val,E.k,E.s,E.n,E.kids,T.val,T.k,T.s,T.n,T.kids,T.at_] at c0 c1 c2 c3 jq jM n0' n1' n2' n3'
     generalize xl.length=xm at *
     go_upto_region 12 with (fail)
     rw [←jM.out]
     go_region_law (first
      | (refine step_append_lies _ rfl _ _ _ rfl w3.heap.size 71 i0 _ 5 64 Tryz.underlying69 hi hz0 hz1 hz2 rfl (by decide) _ _ _ rfl (kQ.out.own.alloc _) ⟨w6.heap.size,0,none⟩ 1 1 (TP.cs ((.mk tk ts tn tl ta:T),A6,c6)) rfl rfl (World.news_of_block (anm w6 _)) (by rw [←bD];exact bG _) (by decide) (Cm hpl2.out) (vS hpl2.out) CB.out _ rfl ?_;intro g' cap w7 fU hgrow hat Ee
         have Ef:=anc fU
         have uU:Hid (w6.grownBy w7 v.ownBlock):=anc ((World.grownBy_alloc _ _ _).trans hgrow)
         have qI:Hid ((Value.slice (some ⟨g',0,none⟩) (ps.length+1) cap).ownBlock=v.ownBlock∨∃ n,(Value.slice (some ⟨g',0,none⟩) (ps.length+1) cap).ownBlock=some n∧w6.heap.size≤n):=anc (hat.imp (fun h=>h.symm) fun h=>⟨g',rfl,by rw [h];exact (aG w6 _ _).size⟩)
         have DV:=anc ((uU.out.block w5.heap.size kQ.out.lt (fun e=>kQ.out.AP e.symm)).trans kQ.out.box)
         obtain ⟨⟨p0,p1,p2,p3,p4⟩,q0,q1,q2,q3,q4⟩:=ay DV.out
         clear fU hgrow hat)
      | (go_simp;go_at_call 67;refine (jq.out).mono ?_;rintro e w6 ⟨⟨A6,c6,rfl,hc6,CE⟩,hb6⟩
         simp only [T.val,T.k,T.s,T.n,T.kids,T.at_]
         have kQ:=anc (HK.out.bel (iJ.out.trans (hb6.mono iJ.out.size)))
         have CB:Hid (w3.heap.size≤(w6.alloc (.cells #[.int .i64 tk,.string ts,.int .i64 tn,.slice A6 tl.length c6,.int .i64 ta] 71)).heap.size):=anc (anv (anv qH.out (Nat.le_of_lt kQ.out.lt)) (aG w6 _ _).size)
         have g3:w6.cell? ⟨w5.heap.size,3,none⟩=some v:=(ay kQ.out.box).1.2.2.2.1
         have Ro:(w6.alloc (.cells #[.int .i64 tk,.string ts,.int .i64 tn,.slice A6 tl.length c6,.int .i64 ta] 71)).cell? ⟨w5.heap.size,3,none⟩=some v:=(World.cell?_alloc_some _ _ _ (by rw [g3];rfl)).trans g3
         have CG:=anc CE
         have zu:=anc hc6
         clear CE hc6
         clear hb6))
     all_goals
      go_wp2_with fail
      go_roundw
      case measure=>exact zo hlt
      case rel=>exact ⟨j+1,hlt,by simp,_,_,kQ.out.step (xs:=[((.mk tk ts tn tl ta:T),A6,c6)]) (sz:=wr.heap.size) uU.out (by rw [bD];exact Ef.out) qI.out (zq zu.out (CG.out.mono fun k hk=>⟨anv iJ.out.size hk.1,hk.2⟩)) (anv qH.out (Nat.le_of_lt HK.out.lt)) HK.out.lt Jg.out,by rw [List.map_append,rq.out,htk.out];rfl⟩
    ·go_wp2_with fail
     go_meet
     case rel=>exact ⟨rfl,v,ps,HK.out,by rw [rq.out,Wp dm _ Qa.out hlt];rfl⟩
  ·obtain ⟨d0,d1,d2,d3,d4,d5,d6,d7,_,_,_,_,_,_,_,_⟩:=az HP8.out
   go_wp2_with fail
   go_loopw [66] (fun i wr=>∃ j:Nat,j≤cl∧i=.int .i64 j∧VE w1 w5.heap.size w3.heap.size (.mk 2 wk 0 [] 0::(pK cols ex).take j) wr) (fun i _=>cl-(intOf i).toNat)
   case atStart=>exact ⟨0,Nat.zero_le _,rfl,_,_,HS.out,rfl⟩
   case round =>
    obtain ⟨j,hj,rfl,v,ps,hK,hps⟩:=hrel
    have HK:=anc hK
    have rq:=anc hps
    have Jg:=anc (fun k (e:v.ownBlock=some k)=>(HK.out.own.lt k e).2)
    have dC:=anc (HB1.out.trans (HK.out.below.mono (Nat.le_of_lt hs1)))
    have Qb:=anc ((HK.out.below.block w.heap.size hs0).trans Fq.out)
    clear hK hps
    have hpl:=anc (xU rq.out (Wq Wx.out Qa.out KC.out hj))
    have hpl2:=anc (aca hpl.out hj l2)
    by_cases hlt:j<cl
    ·obtain ⟨c,hcx⟩:=get_some Wx.out hlt
     obtain ⟨bC,oC,rfl,hbC,TD⟩:=Yv.out.at_ hcx
     have hcw:wr.cell? ⟨bC,oC+j,none⟩=some (.string c):=(dC.out.cell hbC).trans TD
     have hje:j<el:=anp hlt KC.out
     obtain ⟨x,hx⟩:=get_some Qa.out hje
     obtain ⟨b,o,A',c',rfl,Gn,c0,c1,c2,c3,hKx⟩:=eQ.cu HE.out wr dC.out j x hx
     have htk:=anc (TA (.mk 2 wk 0 [] 0) hcx hx)
     have Gl:=anc (fun w' (h:Below wr.heap.size wr w')=>IP x (HEX.out x (anq hx)) A' c' w' ((hKx.low h).more h.size))
     have lY:Hid (∀ w',Below wr.heap.size wr w'→w'.cell? ⟨w5.heap.size,3,none⟩=some v∧w'.cell? ⟨w.heap.size,2,none⟩=some (.slice (some ⟨b,o,none⟩) el ec)∧w'.cell? ⟨b,o+j*4,none⟩=some (.int .i64 x.k)∧w'.cell? ⟨b,o+j*4+1,none⟩=some (.string x.s)∧w'.cell? ⟨b,o+j*4+2,none⟩=some (.int .i64 x.n)∧w'.cell? ⟨b,o+j*4+3,none⟩=some (.slice A' x.kids.length c')) :=
      anc fun w' h=>⟨(ay (HK.out.bel h).box).1.2.2.2.1,(az ((h.block _ (anp hs0 HK.out.below.size)).trans Qb.out)).c2,(h.cell (anp Gn dC.out.size)).trans c0,(h.cell (anp Gn dC.out.size)).trans c1,(h.cell (anp Gn dC.out.size)).trans c2,(h.cell (anp Gn dC.out.size)).trans c3⟩
     have d2:=(az Qb.out).c2
     obtain ⟨y,hy⟩:∃ y,y=dm x:=⟨_,rfl⟩
     rw [←hy] at Gl htk
     clear hcx TD hx hKx c0 c1 c2 c3 hy
     obtain ⟨xk,xs,xn,xl⟩:=x
     obtain ⟨tk,ts,tn,tl,ta⟩:=y
     simp only [E.val,E.k,E.s,E.n,E.kids] at lY Gl
     generalize xl.length=xm at *
     go_upto_region 19 with (fail)
     refine aj.dU (fun w'=>Below wr.heap.size wr w') [13,14,15] (by kernel_rfl) ((anl _ _).drew) (fun hHeld=>?_)
     refine aj.ae (i:=0) (v:=.pointer (some ⟨w5.heap.size,3,none⟩)) (C:=[0,1,13,14,15]) rfl (by kernel_rfl) (by kernel_rfl) (by kernel_rfl) (by kernel_rfl) (fun _ _ _ h=>h) (Or.inl ⟨by rfl,fun w1' hSw=>by (go_simp)⟩) (by assumption) ?_
     simp only [ane,anf,Act.put,anh,ani,anj]
     refine aj.ae (i:=1) (v:=v) (C:=[1,13,14,15]) rfl (by kernel_rfl) (by kernel_rfl) (by kernel_rfl) (by kernel_rfl) (fun _ _ _ h=>h) (Or.inl ⟨by rfl,fun w1' hSw=>by (obtain ⟨r1,r2,r3,r4,r5,r6⟩:=lY.out _ hSw;go_simp)⟩) (by assumption) ?_
     simp only [ane,ang,anf,Act.put,anh,ani,anj]
     refine aj.ae (i:=2) (v:=.string c) (C:=[2,3,10,11,12,13,14,15]) rfl (by kernel_rfl) (by kernel_rfl) (by kernel_rfl) (by kernel_rfl) (fun _ _ _ h=>h) (Or.inl ⟨by rfl,fun w1' hSw=>by (go_simp)⟩) (by assumption) ?_
     simp only [ane,ang,anf,Act.put,anh,ani,anj]
     refine aj.ae (i:=4) (v:=.pointer (some ⟨w.heap.size,2,none⟩)) (C:=[4,5,7,8,9,10,11,12,13,14,15]) rfl (by kernel_rfl) (by kernel_rfl) (by kernel_rfl) (by kernel_rfl) (fun _ _ _ h=>h) (Or.inl ⟨by rfl,fun w1' hSw=>by (go_simp)⟩) (by assumption) ?_
     simp only [ane,ang,anf,Act.put,anh,ani,anj]
     refine aj.ae (i:=5) (v:=.slice (some ⟨b,o,none⟩) el ec) (C:=[5,7,8,9,10,11,12,13,14,15]) rfl (by kernel_rfl) (by kernel_rfl) (by kernel_rfl) (by kernel_rfl) (fun _ _ _ h=>h) (Or.inl ⟨by rfl,fun w1' hSw=>by (obtain ⟨r1,r2,r3,r4,r5,r6⟩:=lY.out _ hSw;go_simp)⟩) (by assumption) ?_
     simp only [ane,ang,anf,Act.put,anh,ani,anj]
     refine aj.ae (i:=6) (v:=.int .i64 j) (C:=[6,7,8,9,10,11,12,13,14,15]) rfl (by kernel_rfl) (by kernel_rfl) (by kernel_rfl) (by kernel_rfl) (fun _ _ _ h=>h) (Or.inl ⟨by rfl,fun w1' hSw=>by (go_simp)⟩) (by assumption) ?_
     simp only [ane,ang,anf,Act.put,anh,ani,anj]
     refine aj.ae (i:=7) (v:=.pointer (some ⟨b,o+j*4,none⟩)) (C:=[7,8,9,10,11,12,13,14,15]) rfl (by kernel_rfl) (by kernel_rfl) (by kernel_rfl) (by kernel_rfl) (fun _ _ _ h=>h) (Or.inl ⟨by rfl,fun w1' hSw=>by (go_simp)⟩) (by assumption) ?_
     simp only [ane,ang,anf,Act.put,anh,ani,anj]
     refine aj.ae (i:=8) (v:=(.agg #[.int .i64 xk,.string xs,.int .i64 xn,.slice A' xm c'])) (C:=[8,9,10,11,12,13,14,15]) rfl (by kernel_rfl) (by kernel_rfl) (by kernel_rfl) (by kernel_rfl) (fun _ _ _ h=>h) (Or.inl ⟨by rfl,fun w1' hSw=>by (obtain ⟨r1,r2,r3,r4,r5,r6⟩:=lY.out _ hSw;go_simp)⟩) (by assumption) ?_
     simp only [ane,ang,anf,Act.put,anh,ani,anj]
     refine aj.au (rs:=[3]) (by kernel_rfl) (by simp) ?_
     refine aj.ah.cons rfl (fun K hK=>?_) aj.ah.nil
     simp only [ane,ang,anf]
     go_simp
     refine (hwa.out c wr.drew).mono ?_
     rintro e wa ⟨rfl,zx⟩
     go_wp2_with fail
     refine hK.out _ _ (((anl wr.heap.size wr).drew).trans zx) (fun hHeld=>?_)
     clear hK K
     refine aj.au (rs:=[9]) (by kernel_rfl) (by simp) ?_
     refine aj.ah.cons rfl (fun K hK=>?_) aj.ah.nil
     simp only [ane,ang,anf]
     go_simp
     refine (Gl.out wa (((anl wr.heap.size wr).drew).trans zx)).mono ?_
     rintro e wb ⟨⟨A7,c7,rfl,Om,Oo⟩,Md⟩
     simp only [T.val,T.k,T.s,T.n,T.kids,T.at_]
     go_wp2_with fail
     have uC:Hid (Below wr.heap.size wr wb):=anc ((((anl wr.heap.size wr).drew).trans zx).trans (Md.mono zx.size))
     have yT:=anc (Oo.mono fun k hk=>(⟨anv zx.size hk.1,hk.2⟩:wr.drew.heap.size≤k∧k<wb.heap.size))
     have HC7:=anc Om
     refine hK.out _ _ uC.out (fun hHeld=>?_)
     clear hK K Oo Om zx Md
     refine aj.au (rs:=[10]) (by kernel_rfl) (by simp) ?_
     refine aj.ah.cons rfl (fun K hK=>?_) aj.ah.nil
     simp only [ane,ang,anf]
     go_simp
     obtain ⟨wq,hwq⟩:∃ wq,wq=wb.alloc (.cells #[.int .i64 2,.string c,.int .i64 0,.slice none 0 0,.int .i64 0,.int .i64 tk,.string ts,.int .i64 tn,.slice A7 tl.length c7,.int .i64 ta] 71):=⟨_,rfl⟩
     rw [←hwq]
     have qZ:Hid (Below wb.heap.size wb wq):=anc (by rw [hwq];exact aG _ _ _)
     have HQ:Hid (wq.heap[wb.heap.size]?=some (.cells #[.int .i64 2,.string c,.int .i64 0,.slice none 0 0,.int .i64 0,.int .i64 tk,.string ts,.int .i64 tn,.slice A7 tl.length c7,.int .i64 ta] 71 (0,0))):=anc (by rw [hwq];exact anm wb _)
     clear hwq
     refine hK.out _ _ (uC.out.trans (qZ.out.mono uC.out.size)) (fun hHeld=>?_)
     clear hK K
     refine aj.au (rs:=[11]) (by kernel_rfl) (by simp) ?_
     refine aj.ah.cons rfl (fun K hK=>?_) aj.ah.nil
     simp only [ane,ang,anf]
     go_simp
     refine (hwo.out (some ⟨wb.heap.size,0,none⟩) 2 2 wq).mono ?_
     rintro e w6 ⟨rfl,hb6⟩
     go_wp2_with fail
     have iP:Hid (Below wr.heap.size wr w6):=anc ((uC.out.trans (qZ.out.mono uC.out.size)).trans (hb6.mono (anv uC.out.size qZ.out.size)))
     have HXI:=anc (Wu (X:=((.mk 2 c 0 [] 0:T),none,0)) (Y:=((.mk tk ts tn tl ta:T),A7,c7)) HQ.out (hb6.block _ (Array.getElem?_eq_some_iff.1 HQ.out).1) (anp (Array.getElem?_eq_some_iff.1 HQ.out).1 hb6.size) uC.out.size (pG c wb _) HC7.out (yT.out) (qZ.out.trans (hb6.mono qZ.out.size)))
     have kQ:=anc (HK.out.bel iP.out)
     refine hK.out _ _ iP.out (fun hHeld=>?_)
     clear hK K hb6
     refine aj.au (rs:=[12]) (by kernel_rfl) (by simp) ?_
     refine aj.ah.cons rfl (fun K hK=>?_) aj.ah.nil
     simp only [ane,ang,anf]
     go_simp
     refine hK.out _ _ (iP.out.alloc iP.out.size _) (fun hHeld=>?_)
     clear hK K
     refine aj.au (rs:=[13]) (by kernel_rfl) (by simp) ?_
     refine aj.ah.late (by decide) rfl (fun K hK=>?_) aj.ah.nil
     refine step_append_lies _ rfl _ _ _ rfl w3.heap.size 71 i0 _ 5 64 Tryz.underlying69 hi hz0 hz1 hz2 rfl (by decide) _ _ _ rfl (kQ.out.own.alloc _) ⟨w6.heap.size,0,none⟩ 1 1 [.int .i64 1,.string ⟨#[]⟩,.int .i64 0,.slice (some ⟨wb.heap.size,0,none⟩) 2 2,.int .i64 0] rfl rfl (World.news_of_block (anm w6 _)) (bG [((.mk 1 ⟨#[]⟩ 0 [.mk 2 c 0 [] 0,.mk tk ts tn tl ta] 0:T),some ⟨wb.heap.size,0,none⟩,2)]) (by decide) (Cm hpl2.out) (vS hpl2.out) (anv (anv (anv qH.out (Nat.le_of_lt HK.out.lt)) iP.out.size) (aG w6 _ _).size) _ rfl ?_
     intro g' cap w7 fU hgrow hat Ee
     have Ef:=anc fU
     have uU:Hid (w6.grownBy w7 v.ownBlock):=anc ((World.grownBy_alloc _ _ _).trans hgrow)
     have qI:Hid ((Value.slice (some ⟨g',0,none⟩) (ps.length+1) cap).ownBlock=v.ownBlock∨∃ n,(Value.slice (some ⟨g',0,none⟩) (ps.length+1) cap).ownBlock=some n∧w6.heap.size≤n):=anc (hat.imp (fun h=>h.symm) fun h=>⟨g',rfl,by rw [h];exact (aG w6 _ _).size⟩)
     have DV:=anc ((uU.out.block w5.heap.size kQ.out.lt (fun e=>kQ.out.AP e.symm)).trans kQ.out.box)
     obtain ⟨⟨p0,p1,p2,p3,p4⟩,q0,q1,q2,q3,q4⟩:=ay DV.out
     clear fU hgrow hat
     refine hK.out _ _ ?_
     clear hK K
     simp only [ane,ang,anf,Act.put,anh,ani,anj]
     refine aj.au (rs:=[14]) (by kernel_rfl) (by simp) ?_
     refine aj.ah.late (by decide) rfl (fun K hK=>?_) aj.ah.nil
     simp only [ane,ang,anf]
     go_simp
     refine hK.out _ _ ?_
     clear hK K
     refine aj.au (rs:=[15]) (by kernel_rfl) (by simp) ?_
     refine aj.ah.late (by decide) rfl (fun K hK=>?_) aj.ah.nil
     simp only [ane,ang,anf]
     go_simp
     refine hK.out _ _ ?_
     clear hK K
     refine aj.dw (by kernel_rfl) ?_ _
     go_wp2_with fail
     go_roundw
     case measure=>exact zo hlt
     case rel=>exact ⟨j+1,hlt,by simp,_,_,kQ.out.step (xs:=[((.mk 1 ⟨#[]⟩ 0 [.mk 2 c 0 [] 0,.mk tk ts tn tl ta] 0:T),some ⟨wb.heap.size,0,none⟩,2)]) (sz:=wr.heap.size) uU.out Ef.out qI.out (zq (by simp [T.kids]) HXI.out) (anv qH.out (Nat.le_of_lt HK.out.lt)) HK.out.lt Jg.out,by rw [List.map_append,rq.out,htk.out];rfl⟩
    ·have he:=anc (Ws Wx.out Qa.out KC.out hlt (wk:=wk))
     go_wp2_with fail
     go_meet
     case rel=>exact ⟨rfl,v,ps,HK.out,by rw [rq.out,he.out];rfl⟩
  ·obtain ⟨v,ps,hK,hps⟩:VE w1 w5.heap.size w3.heap.size [.mk 2 wk 0 [] 0] w8:=⟨_,_,HS.out,rfl⟩
   have HK:=anc hK
   have rq:=anc hps
   have Jg:=anc (fun k (e:v.ownBlock=some k)=>(HK.out.own.lt k e).2)
   have dC:=anc (HB1.out.trans (HK.out.below.mono (Nat.le_of_lt hs1)))
   have Qb:=anc ((HK.out.below.block w.heap.size hs0).trans Fq.out)
   clear hK hps
   have hpl:=anc (xU rq.out (j:=1) rfl)
   have hpl2:=anc (show ps.length≤2000 by rw [hpl.out];decide)
   have lY:Hid (∀ w',Below w8.heap.size w8 w'→w'.cell? ⟨w5.heap.size,3,none⟩=some v∧w'.cell? ⟨w.heap.size,4,none⟩=some (.slice la ll lc)∧w'.cell? ⟨w.heap.size,5,none⟩=some (.slice ra rl rc)):=anc fun w' h=>⟨(ay (HK.out.bel h).box).1.2.2.2.1,(az ((h.block _ (anp hs0 HK.out.below.size)).trans Qb.out)).c4,(az ((h.block _ (anp hs0 HK.out.below.size)).trans Qb.out)).c5⟩
   have Oc:Hid (∀ w',Below w8.heap.size w8 w'→Calls Tryz.prog 68 #[.slice la ll lc] w' (mr w' (dX left))):=anc fun w' h=>pM KA.out l3 ((HLF.out.kept fun k hk=>(dC.out.trans (h.mono dC.out.size)).block k hk).mono fun k hk=>anp hk (dC.out.trans (h.mono dC.out.size)).size)
   have HC2:Hid (∀ w',Below w8.heap.size w8 w'→Calls Tryz.prog 68 #[.slice ra rl rc] w' (mr w' (dX right))):=anc fun w' h=>pM HRL.out l4 ((HRI.out.kept fun k hk=>(dC.out.trans (h.mono dC.out.size)).block k hk).mono fun k hk=>anp hk (dC.out.trans (h.mono dC.out.size)).size)
   have hmid:Hid (jV 4 nm ex cols left right ag=[dX left,dX right]):=anc rfl
   generalize dX left=yl at *
   generalize dX right=yr at *
   obtain ⟨lk,ls,ln,lt,lo⟩:=yl
   obtain ⟨rk,rs,rn,rt,ro⟩:=yr
   go_upto_region 22 with (fail)
   refine aj.dU (fun w'=>Below w8.heap.size w8 w') [9,10,11] (by kernel_rfl) ((anl _ _).drew) (fun hHeld=>?_)
   refine aj.ae (i:=0) (v:=.pointer (some ⟨w5.heap.size,3,none⟩)) (C:=[0,1,9,10,11]) rfl (by kernel_rfl) (by kernel_rfl) (by kernel_rfl) (by kernel_rfl) (fun _ _ _ h=>h) (Or.inl ⟨by rfl,fun w1' hSw=>by (go_simp)⟩) (by assumption) ?_
   simp only [ane,anf,Act.put,anh,ani,anj]
   refine aj.ae (i:=1) (v:=v) (C:=[1,9,10,11]) rfl (by kernel_rfl) (by kernel_rfl) (by kernel_rfl) (by kernel_rfl) (fun _ _ _ h=>h) (Or.inl ⟨by rfl,fun w1' hSw=>by (obtain ⟨r1,r2,r3⟩:=lY.out _ hSw;go_simp)⟩) (by assumption) ?_
   simp only [ane,ang,anf,Act.put,anh,ani,anj]
   refine aj.ae (i:=2) (v:=.pointer (some ⟨w.heap.size,4,none⟩)) (C:=[2,3,4,8,9,10,11]) rfl (by kernel_rfl) (by kernel_rfl) (by kernel_rfl) (by kernel_rfl) (fun _ _ _ h=>h) (Or.inl ⟨by rfl,fun w1' hSw=>by (go_simp)⟩) (by assumption) ?_
   simp only [ane,ang,anf,Act.put,anh,ani,anj]
   refine aj.ae (i:=3) (v:=.slice la ll lc) (C:=[3,4,8,9,10,11]) rfl (by kernel_rfl) (by kernel_rfl) (by kernel_rfl) (by kernel_rfl) (fun _ _ _ h=>h) (Or.inl ⟨by rfl,fun w1' hSw=>by (obtain ⟨r1,r2,r3⟩:=lY.out _ hSw;go_simp)⟩) (by assumption) ?_
   simp only [ane,ang,anf,Act.put,anh,ani,anj]
   refine aj.ae (i:=5) (v:=.pointer (some ⟨w.heap.size,5,none⟩)) (C:=[5,6,7,8,9,10,11]) rfl (by kernel_rfl) (by kernel_rfl) (by kernel_rfl) (by kernel_rfl) (fun _ _ _ h=>h) (Or.inl ⟨by rfl,fun w1' hSw=>by (go_simp)⟩) (by assumption) ?_
   simp only [ane,ang,anf,Act.put,anh,ani,anj]
   refine aj.ae (i:=6) (v:=.slice ra rl rc) (C:=[6,7,8,9,10,11]) rfl (by kernel_rfl) (by kernel_rfl) (by kernel_rfl) (by kernel_rfl) (fun _ _ _ h=>h) (Or.inl ⟨by rfl,fun w1' hSw=>by (obtain ⟨r1,r2,r3⟩:=lY.out _ hSw;go_simp)⟩) (by assumption) ?_
   simp only [ane,ang,anf,Act.put,anh,ani,anj]
   refine aj.au (rs:=[4]) (by kernel_rfl) (by simp) ?_
   refine aj.ah.cons rfl (fun K hK=>?_) aj.ah.nil
   simp only [ane,ang,anf]
   go_simp
   refine (Oc.out w8.drew (anl _ _).drew).mono ?_
   rintro e wa ⟨⟨A6,c6,rfl,hc6,CE⟩,zx⟩
   simp only [T.val,T.k,T.s,T.n,T.kids,T.at_]
   go_wp2_with fail
   refine hK.out _ _ (((anl w8.heap.size w8).drew).trans zx) (fun hHeld=>?_)
   clear hK K
   refine aj.au (rs:=[7]) (by kernel_rfl) (by simp) ?_
   refine aj.ah.cons rfl (fun K hK=>?_) aj.ah.nil
   simp only [ane,ang,anf]
   go_simp
   refine (HC2.out wa (((anl w8.heap.size w8).drew).trans zx)).mono ?_
   rintro e wb ⟨⟨A7,c7,rfl,Om,Oo⟩,Md⟩
   simp only [T.val,T.k,T.s,T.n,T.kids,T.at_]
   go_wp2_with fail
   have BO:=anc ((CE.kept fun k hk=>Md.block k hk.2).mono fun k hk=>(⟨hk.1,anp hk.2 Md.size⟩:w8.drew.heap.size≤k∧k<wb.heap.size))
   have yT:=anc (Oo.mono fun k hk=>(⟨anv zx.size hk.1,hk.2⟩:w8.drew.heap.size≤k∧k<wb.heap.size))
   have zu:=anc hc6
   have HC7:=anc Om
   have uC:Hid (Below w8.heap.size w8 wb):=anc ((((anl w8.heap.size w8).drew).trans zx).trans (Md.mono zx.size))
   have kQ:=anc (HK.out.bel uC.out)
   refine hK.out _ _ uC.out (fun hHeld=>?_)
   clear hK K CE Oo hc6 Om zx Md
   refine aj.au (rs:=[8]) (by kernel_rfl) (by simp) ?_
   refine aj.ah.cons rfl (fun K hK=>?_) aj.ah.nil
   simp only [ane,ang,anf]
   go_simp
   refine hK.out _ _ (uC.out.alloc uC.out.size _) (fun hHeld=>?_)
   clear hK K
   refine aj.au (rs:=[9]) (by kernel_rfl) (by simp) ?_
   refine aj.ah.late (by decide) rfl (fun K hK=>?_) aj.ah.nil
   refine step_append_lies _ rfl _ _ _ rfl w3.heap.size 71 i0 _ 5 64 Tryz.underlying69 hi hz0 hz1 hz2 rfl (by decide) _ _ _ rfl (kQ.out.own.alloc _) ⟨wb.heap.size,0,none⟩ 2 2 [.int .i64 lk,.string ls,.int .i64 ln,.slice A6 lt.length c6,.int .i64 lo,.int .i64 rk,.string rs,.int .i64 rn,.slice A7 rt.length c7,.int .i64 ro] rfl rfl (World.news_of_block (anm wb _)) (bG [((.mk lk ls ln lt lo:T),A6,c6),((.mk rk rs rn rt ro:T),A7,c7)]) (by decide) (ab9 hpl2.out) (Zg hpl2.out) (anv (anv (anv qH.out (Nat.le_of_lt HK.out.lt)) uC.out.size) (aG wb _ _).size) _ rfl ?_
   intro g' cap w7 fU hgrow hat Ee
   have Ef:=anc fU
   have uU:Hid (wb.grownBy w7 v.ownBlock):=anc ((World.grownBy_alloc _ _ _).trans hgrow)
   have qI:Hid ((Value.slice (some ⟨g',0,none⟩) (ps.length+2) cap).ownBlock=v.ownBlock∨∃ n,(Value.slice (some ⟨g',0,none⟩) (ps.length+2) cap).ownBlock=some n∧wb.heap.size≤n):=anc (hat.imp (fun h=>h.symm) fun h=>⟨g',rfl,by rw [h];exact (aG wb _ _).size⟩)
   have DV:=anc ((uU.out.block w5.heap.size kQ.out.lt (fun e=>kQ.out.AP e.symm)).trans kQ.out.box)
   obtain ⟨⟨p0,p1,p2,p3,p4⟩,q0,q1,q2,q3,q4⟩:=ay DV.out
   clear fU hgrow hat
   refine hK.out _ _ ?_
   clear hK K
   simp only [ane,ang,anf,Act.put,anh,ani,anj]
   refine aj.au (rs:=[10]) (by kernel_rfl) (by simp) ?_
   refine aj.ah.late (by decide) rfl (fun K hK=>?_) aj.ah.nil
   simp only [ane,ang,anf]
   go_simp
   refine hK.out _ _ ?_
   clear hK K
   refine aj.au (rs:=[11]) (by kernel_rfl) (by simp) ?_
   refine aj.ah.late (by decide) rfl (fun K hK=>?_) aj.ah.nil
   simp only [ane,ang,anf]
   go_simp
   refine hK.out _ _ ?_
   clear hK K
   refine aj.dw (by kernel_rfl) ?_ _
   go_wp2_with fail
   go_meet
   case rel=>exact ⟨rfl,_,_,kQ.out.step (xs:=[((.mk lk ls ln lt lo:T),A6,c6),((.mk rk rs rn rt ro:T),A7,c7)]) (sz:=w8.heap.size) uU.out Ef.out qI.out (Tz zu.out BO.out HC7.out yT.out) (anv qH.out (Nat.le_of_lt HK.out.lt)) HK.out.lt Jg.out,by rw [List.map_append,rq.out,hmid.out];rfl⟩
  ·go_wp2_with fail
   go_meet
   case rel=>exact ⟨rfl,_,_,HS.out,rfl⟩
  ·go_wp2_with fail
   go_meet
   case rel=>exact ⟨rfl,_,_,HS.out,rfl⟩
  ·obtain ⟨v,ps,hK,hps⟩:VE w1 w5.heap.size w3.heap.size [.mk 2 wk 0 [] 0] w8:=⟨_,_,HS.out,rfl⟩
   have HK:=anc hK
   have rq:=anc hps
   have Jg:=anc (fun k (e:v.ownBlock=some k)=>(HK.out.own.lt k e).2)
   have dC:=anc (HB1.out.trans (HK.out.below.mono (Nat.le_of_lt hs1)))
   have Qb:=anc ((HK.out.below.block w.heap.size hs0).trans Fq.out)
   clear hK hps
   have hpl:=anc (xU rq.out (j:=1) rfl)
   have hpl2:=anc (show ps.length≤2000 by rw [hpl.out];decide)
   have d4:=(az Qb.out).c4
   have g0:=(ay HK.out.box).1.2.2.2.1
   have iJ:=anc (show Below w8.heap.size w8 w8.drew from (anl _ _).drew)
   have jq:=anc (pM (A:=la) (c:=lc) KA.out l3 ((HLF.out.kept fun k hk=>(dC.out.trans (iJ.out.mono dC.out.size)).block k hk).mono fun k hk=>anp hk (dC.out.trans (iJ.out.mono dC.out.size)).size))
   have hmid:Hid (jV 7 nm ex cols left right ag=dX left::ag.map fun g=>dX (vP g)):=anc rfl
   generalize hyl:dX left=yl at *
   have HYL:=anc hyl
   clear hyl
   obtain ⟨tk,ts,tn,tl,ta⟩:=yl
   go_upto_region 24 with (fail)
   go_cut [4] (fun s4 wx=>s4=.pointer (some ⟨w5.heap.size,0,none⟩)∧VE w1 w5.heap.size w3.heap.size [.mk 2 wk 0 [] 0,.mk tk ts tn tl ta] wx)
   case first =>
    go_region_law (first
     | (refine step_append_lies _ rfl _ _ _ rfl w3.heap.size 71 i0 _ 5 64 Tryz.underlying69 hi hz0 hz1 hz2 rfl (by decide) _ _ _ rfl (kQ.out.own.alloc _) ⟨w6.heap.size,0,none⟩ 1 1 (TP.cs ((.mk tk ts tn tl ta:T),A6,c6)) rfl rfl (World.news_of_block (anm w6 _)) (by rw [←bD];exact bG _) (by decide) (Cm hpl2.out) (vS hpl2.out) CB.out _ rfl ?_;intro g' cap w7 fU hgrow hat Ee
        have Ef:=anc fU
        have uU:Hid (w6.grownBy w7 v.ownBlock):=anc ((World.grownBy_alloc _ _ _).trans hgrow)
        have qI:Hid ((Value.slice (some ⟨g',0,none⟩) (ps.length+1) cap).ownBlock=v.ownBlock∨∃ n,(Value.slice (some ⟨g',0,none⟩) (ps.length+1) cap).ownBlock=some n∧w6.heap.size≤n):=anc (hat.imp (fun h=>h.symm) fun h=>⟨g',rfl,by rw [h];exact (aG w6 _ _).size⟩)
        have DV:=anc ((uU.out.block w5.heap.size kQ.out.lt (fun e=>kQ.out.AP e.symm)).trans kQ.out.box)
        obtain ⟨⟨p0,p1,p2,p3,p4⟩,q0,q1,q2,q3,q4⟩:=ay DV.out
        clear fU hgrow hat)
     | (go_simp;go_at_call 68;refine (jq.out).mono ?_;rintro e w6 ⟨⟨A6,c6,rfl,hc6,CE⟩,hb6⟩
        simp only [T.val,T.k,T.s,T.n,T.kids,T.at_]
        have kQ:=anc (HK.out.bel (iJ.out.trans (hb6.mono iJ.out.size)))
        have CB:Hid (w3.heap.size≤(w6.alloc (.cells #[.int .i64 tk,.string ts,.int .i64 tn,.slice A6 tl.length c6,.int .i64 ta] 71)).heap.size):=anc (anv (anv qH.out (Nat.le_of_lt kQ.out.lt)) (aG w6 _ _).size)
        have g3:w6.cell? ⟨w5.heap.size,3,none⟩=some v:=(ay kQ.out.box).1.2.2.2.1
        have Ro:(w6.alloc (.cells #[.int .i64 tk,.string ts,.int .i64 tn,.slice A6 tl.length c6,.int .i64 ta] 71)).cell? ⟨w5.heap.size,3,none⟩=some v:=(World.cell?_alloc_some _ _ _ (by rw [g3];rfl)).trans g3
        have CG:=anc CE
        have zu:=anc hc6
        clear CE hc6
        clear hb6))
    all_goals
     go_wp2_with fail
     go_meet
     case rel=>exact ⟨rfl,_,_,kQ.out.step (xs:=[((.mk tk ts tn tl ta:T),A6,c6)]) (sz:=w8.heap.size) uU.out (by rw [bD];exact Ef.out) qI.out (zq zu.out (CG.out.mono fun k hk=>⟨anv iJ.out.size hk.1,hk.2⟩)) (anv qH.out (Nat.le_of_lt HK.out.lt)) HK.out.lt Jg.out,by rw [List.map_append,rq.out];rfl⟩
   case rest =>
    obtain ⟨rfl,v0,ps0,hK0,hps0⟩:=hcut
    clear HK rq hpl hpl2 Jg dC Qb d4 g0 iJ jq
    have HK0:=anc hK0
    have Zk:=anc hps0
    have HP0:=anc ((hK0.below.block w.heap.size hs0).trans Fq.out)
    clear hK0 hps0
    have d6:=(az HP0.out).c6
    go_wp2_with fail
    go_loopw [118] (fun i wr=>∃ j:Nat,j≤gl∧i=.int .i64 j∧VE w1 w5.heap.size w3.heap.size ([.mk 2 wk 0 [] 0,.mk tk ts tn tl ta]++(ag.take j).map fun g=>dX (vP g)) wr) (fun i _=>gl-(intOf i).toNat)
    case atStart=>exact ⟨0,Nat.zero_le _,rfl,_,_,HK0.out,by rw [Zk.out];rfl⟩
    case round =>
     obtain ⟨j,hj,rfl,v,ps,hK,hps⟩:=hrel
     have HK:=anc hK
     have rq:=anc hps
     have Jg:=anc (fun k (e:v.ownBlock=some k)=>(HK.out.own.lt k e).2)
     have dC:=anc (HB1.out.trans (HK.out.below.mono (Nat.le_of_lt hs1)))
     have Qb:=anc ((HK.out.below.block w.heap.size hs0).trans Fq.out)
     clear hK hps
     have hpl2:=anc (Ol (k:=2) rq.out rfl (by simp) Rt.out hj l5)
     by_cases hlt:j<gl
     ·obtain ⟨x,hx⟩:=get_some Rt.out hlt
      obtain ⟨b,o,rfl,hbl,m0,m1,m2⟩:=Wv HG.out hx
      have m0':=(dC.out.cell (p:=⟨b,o+j*3,none⟩) hbl).trans m0
      have m1':=(dC.out.cell (p:=⟨b,o+j*3+1,none⟩) hbl).trans m1
      have m2':=(dC.out.cell (p:=⟨b,o+j*3+2,none⟩) hbl).trans m2
      have htk:=anc (Jh (fun g=>dX (vP g)) [.mk 2 wk 0 [] 0,.mk tk ts tn tl ta] hx)
      clear m0 m1 m2 hx
      obtain ⟨an,af,ac⟩:=x
      obtain ⟨wx,dN⟩:∃ wx,wx=wr.alloc (.cells #[.string an,.string af,.string ac] 46):=⟨_,rfl⟩
      have hbx:Below wr.heap.size wr wx:=by rw [dN];exact (anl _ _).alloc (ank _) _
      have hnx:wx.heap[wr.heap.size]?=some (.cells #[.string an,.string af,.string ac] 46 (0,0)):=by rw [dN];exact anm wr _
      obtain ⟨wy,yH⟩:∃ wy,wy=wx.alloc (.cells #[.string an,.string af] 9):=⟨_,rfl⟩
      have hby:Below wx.heap.size wx wy:=by rw [yH];exact (anl _ _).alloc (ank _) _
      have hny:wy.heap[wx.heap.size]?=some (.cells #[.string an,.string af] 9 (0,0)):=by rw [yH];exact anm wx _
      have Aa:=anc hnx
      have HNY:=anc ((hby.block _ (Array.getElem?_eq_some_iff.1 hnx).1).trans hnx)
      have HOY:Hid (wy.ownsRow wx.heap.size 9 1 (.slice (some ⟨wx.heap.size,0,none⟩) 2 2) 2 (strs [an,af])):=anc ⟨rfl,.inr ⟨wx.heap.size,2,_,rfl,ank _,hny,ank _,by decide,rfl,rfl⟩⟩
      have BV:Hid (Below wr.heap.size wr wy):=anc (hbx.trans (hby.mono hbx.size))
      have hxs:=anc hbx.size
      have jM:=anc dN
      have Qc:=anc yH
      clear dN hbx hnx yH hby hny
      obtain ⟨⟨e0,e1,e2⟩,_,_,_⟩:=bH Aa.out
      go_upto_region 28 with (fail)
      rw [←jM.out]
      go_upto_region 29 with (fail)
      rw [←Qc.out]
      clear e0 e1 e2
      obtain ⟨⟨e0,e1,e2⟩,_,_,_⟩:=bH HNY.out
      by_cases hf:af.toList=[99,111,117,110,116]
      ·have hag:Hid (vP ⟨an,af,ac⟩=[an,af]):=anc (Zh hf)
       have iJ:Hid (Below wr.heap.size wr wy.drew):=anc BV.out.drew
       have jq:=anc (pM (A:=some ⟨wx.heap.size,0,none⟩) (c:=2) (n:=2) (l:=[an,af]) (w:=wy.drew) rfl (by decide) (P8 HOY.out))
       have g0:=(ay (HK.out.bel BV.out).box).1.2.2.2.1
       generalize hyy:dX [an,af]=y at *
       have HYY:=anc hyy
       clear hyy
       obtain ⟨uk,us,un,ul,uo⟩:=y
       go_upto_region 31 with (fail)
       go_region_law (first
        | (refine step_append_lies _ rfl _ _ _ rfl w3.heap.size 71 i0 _ 5 64 Tryz.underlying69 hi hz0 hz1 hz2 rfl (by decide) _ _ _ rfl (kQ.out.own.alloc _) ⟨w6.heap.size,0,none⟩ 1 1 (TP.cs ((.mk uk us un ul uo:T),A6,c6)) rfl rfl (World.news_of_block (anm w6 _)) (by rw [←bD];exact bG _) (by decide) (Cm hpl2.out) (vS hpl2.out) CB.out _ rfl ?_;intro g' cap w7 fU hgrow hat Ee
           have Ef:=anc fU
           have uU:Hid (w6.grownBy w7 v.ownBlock):=anc ((World.grownBy_alloc _ _ _).trans hgrow)
           have qI:Hid ((Value.slice (some ⟨g',0,none⟩) (ps.length+1) cap).ownBlock=v.ownBlock∨∃ n,(Value.slice (some ⟨g',0,none⟩) (ps.length+1) cap).ownBlock=some n∧w6.heap.size≤n):=anc (hat.imp (fun h=>h.symm) fun h=>⟨g',rfl,by rw [h];exact (aG w6 _ _).size⟩)
           have DV:=anc ((uU.out.block w5.heap.size kQ.out.lt (fun e=>kQ.out.AP e.symm)).trans kQ.out.box)
           obtain ⟨⟨p0,p1,p2,p3,p4⟩,q0,q1,q2,q3,q4⟩:=ay DV.out
           clear fU hgrow hat)
        | (go_simp;go_at_call 68;refine (jq.out).mono ?_;rintro e w6 ⟨⟨A6,c6,rfl,hc6,CE⟩,hb6⟩
           simp only [T.val,T.k,T.s,T.n,T.kids,T.at_]
           have kQ:=anc (HK.out.bel (iJ.out.trans (hb6.mono iJ.out.size)))
           have CB:Hid (w3.heap.size≤(w6.alloc (.cells #[.int .i64 uk,.string us,.int .i64 un,.slice A6 ul.length c6,.int .i64 uo] 71)).heap.size):=anc (anv (anv qH.out (Nat.le_of_lt kQ.out.lt)) (aG w6 _ _).size)
           have g3:w6.cell? ⟨w5.heap.size,3,none⟩=some v:=(ay kQ.out.box).1.2.2.2.1
           have Ro:(w6.alloc (.cells #[.int .i64 uk,.string us,.int .i64 un,.slice A6 ul.length c6,.int .i64 uo] 71)).cell? ⟨w5.heap.size,3,none⟩=some v:=(World.cell?_alloc_some _ _ _ (by rw [g3];rfl)).trans g3
           have CG:=anc CE
           have zu:=anc hc6
           clear CE hc6
           clear hb6))
       all_goals
        go_wp2_with fail
        go_roundw
        case measure=>exact zo hlt
        case rel=>exact ⟨j+1,hlt,by simp,_,_,kQ.out.step (xs:=[((.mk uk us un ul uo:T),A6,c6)]) (sz:=wr.heap.size) uU.out (by rw [bD];exact Ef.out) qI.out (zq zu.out (CG.out.mono fun k hk=>⟨anv iJ.out.size hk.1,hk.2⟩)) (anv qH.out (Nat.le_of_lt HK.out.lt)) HK.out.lt Jg.out,by rw [List.map_append,rq.out,htk.out,hag.out,HYY.out];rfl⟩
      ·have hf':(af.toList==[99,111,117,110,116])=false:=beq_eq_false_iff_ne.2 hf
       have hag:Hid (vP ⟨an,af,ac⟩=[an,af,ac]):=anc (Zi hf)
       obtain ⟨iS,iS1,iS2,iS3,iS4⟩:=info_parts o9
       clear hf
       go_wp2_with (at_builtin;refine wpList_append_own _ rfl _ _ 23 rfl wx.heap.size 9 iS _ 1 16 Tryz.underlying23 iS1 iS2 iS3 iS4 rfl (by decide) (.slice (some ⟨wx.heap.size,0,none⟩) 2 2) 2 (strs [an,af]) rfl (own_below HOY.out ((anl wy.heap.size wy).alloc (ank _) _)) ⟨wy.heap.size,0,none⟩ 1 1 [.string ac] rfl rfl (World.news_of_block (anm wy _)) BR (by decide) (by decide) (anv (Zj HOY.out) (aG wy _ _).size) ?_)
       intro v' w9 Yw TE _
       have HB9:Hid (Below wr.heap.size wr w9):=anc ((BV.out.alloc BV.out.size _).grown TE (anv BV.out.size (aG wy _ _).size) (fun k e=>anv hxs.out (HOY.out.lt k e).1))
       obtain ⟨A9,c9,e9,Gp,hL9⟩:=lQ Yw (S:=fun k=>k<w9.drew.heap.size) (fun k h1 h2=>h2)
       subst e9
       have HL9:=anc hL9
       clear Yw TE hL9
       have iJ:Hid (Below wr.heap.size wr w9.drew):=anc HB9.out.drew
       have jq:=anc (pM (A:=A9) (c:=c9) (n:=3) (l:=[an,af,ac]) (w:=w9.drew) rfl (by decide) (P9 HL9.out))
       have g0:=(ay (HK.out.bel HB9.out).box).1.2.2.2.1
       generalize hyy:dX [an,af,ac]=y at *
       have HYY:=anc hyy
       clear hyy
       obtain ⟨uk,us,un,ul,uo⟩:=y
       go_upto_region 31 with (fail)
       go_region_law (first
        | (refine step_append_lies _ rfl _ _ _ rfl w3.heap.size 71 i0 _ 5 64 Tryz.underlying69 hi hz0 hz1 hz2 rfl (by decide) _ _ _ rfl (kQ.out.own.alloc _) ⟨w6.heap.size,0,none⟩ 1 1 (TP.cs ((.mk uk us un ul uo:T),A6,c6)) rfl rfl (World.news_of_block (anm w6 _)) (by rw [←bD];exact bG _) (by decide) (Cm hpl2.out) (vS hpl2.out) CB.out _ rfl ?_;intro g' cap w7 fU hgrow hat Ee
           have Ef:=anc fU
           have uU:Hid (w6.grownBy w7 v.ownBlock):=anc ((World.grownBy_alloc _ _ _).trans hgrow)
           have qI:Hid ((Value.slice (some ⟨g',0,none⟩) (ps.length+1) cap).ownBlock=v.ownBlock∨∃ n,(Value.slice (some ⟨g',0,none⟩) (ps.length+1) cap).ownBlock=some n∧w6.heap.size≤n):=anc (hat.imp (fun h=>h.symm) fun h=>⟨g',rfl,by rw [h];exact (aG w6 _ _).size⟩)
           have DV:=anc ((uU.out.block w5.heap.size kQ.out.lt (fun e=>kQ.out.AP e.symm)).trans kQ.out.box)
           obtain ⟨⟨p0,p1,p2,p3,p4⟩,q0,q1,q2,q3,q4⟩:=ay DV.out
           clear fU hgrow hat)
        | (go_simp;go_at_call 68;refine (jq.out).mono ?_;rintro e w6 ⟨⟨A6,c6,rfl,hc6,CE⟩,hb6⟩
           simp only [T.val,T.k,T.s,T.n,T.kids,T.at_]
           have kQ:=anc (HK.out.bel (iJ.out.trans (hb6.mono iJ.out.size)))
           have CB:Hid (w3.heap.size≤(w6.alloc (.cells #[.int .i64 uk,.string us,.int .i64 un,.slice A6 ul.length c6,.int .i64 uo] 71)).heap.size):=anc (anv (anv qH.out (Nat.le_of_lt kQ.out.lt)) (aG w6 _ _).size)
           have g3:w6.cell? ⟨w5.heap.size,3,none⟩=some v:=(ay kQ.out.box).1.2.2.2.1
           have Ro:(w6.alloc (.cells #[.int .i64 uk,.string us,.int .i64 un,.slice A6 ul.length c6,.int .i64 uo] 71)).cell? ⟨w5.heap.size,3,none⟩=some v:=(World.cell?_alloc_some _ _ _ (by rw [g3];rfl)).trans g3
           have CG:=anc CE
           have zu:=anc hc6
           clear CE hc6
           clear hb6))
       all_goals
        go_wp2_with fail
        go_roundw
        case measure=>exact zo hlt
        case rel=>exact ⟨j+1,hlt,by simp,_,_,kQ.out.step (xs:=[((.mk uk us un ul uo:T),A6,c6)]) (sz:=wr.heap.size) uU.out (by rw [bD];exact Ef.out) qI.out (zq zu.out (CG.out.mono fun k hk=>⟨anv iJ.out.size hk.1,hk.2⟩)) (anv qH.out (Nat.le_of_lt HK.out.lt)) HK.out.lt Jg.out,by rw [List.map_append,rq.out,htk.out,hag.out,HYY.out];rfl⟩
     ·go_wp2_with fail
      go_meet
      case rel=>exact ⟨rfl,v,ps,HK.out,by rw [rq.out,hmid.out,List.take_of_length_le (by have:=Rt.out;omega)];rfl⟩
 case rest =>
  obtain ⟨rfl,v0,ps0,hK0,hps0⟩:=hcut
  have HK0:=anc hK0
  have Zk:=anc hps0
  have HP0:=anc ((hK0.below.block w.heap.size hs0).trans Fq.out)
  have hml:=anc (TB (k:=k) (nm:=nm) (left:=left) (right:=right) Qa.out Wx.out Rt.out l1 l2 l5 KC.out)
  generalize hmp:T.mk 2 wk 0 [] 0::jV k nm ex cols left right ag=base at *
  have hbl:Hid (base.length≤602):=anc (by rw [←hmp,List.length_cons];exact Nat.succ_le_succ hml.out)
  have hfin:Hid (kP (T.mk 2 wk 0 [] 0::(jV k nm ex cols left right ag++iF kids))=kP (base++kids.map aV)):=anc (by rw [←hmp,qF];rfl)
  clear hK0 hps0 hmp
  have d7:=(az HP0.out).c7
  go_wp2_with fail
  go_loopw [146] (fun i wr=>∃ j:Nat,j≤kl∧i=.int .i64 j∧VE w1 w5.heap.size w3.heap.size (base++(kids.take j).map aV) wr) (fun i _=>kl-(intOf i).toNat)
  case atStart=>exact ⟨0,Nat.zero_le _,rfl,_,_,HK0.out,by rw [Zk.out];simp⟩
  case round =>
   obtain ⟨j,hj,rfl,v,ps,hK,hps⟩:=hrel
   have HK:=anc hK
   have rq:=anc hps
   have Jg:=anc (fun k (e:v.ownBlock=some k)=>(HK.out.own.lt k e).2)
   have dC:=anc (HB1.out.trans (HK.out.below.mono (Nat.le_of_lt hs1)))
   have Qb:=anc ((HK.out.below.block w.heap.size hs0).trans Fq.out)
   clear hK hps
   have hpl2:=anc (Ol (k:=602) rq.out rfl hbl.out Yu.out hj l6)
   by_cases hlt:j<kl
   ·obtain ⟨x,hx⟩:=get_some Yu.out hlt
    obtain ⟨b,o,aq,rfl,Gn,hcs,hat⟩:=KH.out.at hx
    have hcw:∀ i u,(x.cs aq)[i]?=some u→wr.cell? ⟨b,o+j*8+i,none⟩=some u:=fun i u hu=>(dC.out.cell (p:=⟨b,o+j*8+i,none⟩) Gn).trans (hcs i u hu)
    have m0:=hcw 0 _ rfl
    have m1:=hcw 1 _ rfl
    have m2:=hcw 2 _ rfl
    have m3:=hcw 3 _ rfl
    have m4:=hcw 4 _ rfl
    have m5:=hcw 5 _ rfl
    have m6:=hcw 6 _ rfl
    have m7:=hcw 7 _ rfl
    rw [Nat.add_zero] at m0
    have htk:=anc (Jh aV base hx)
    obtain ⟨wx,dN⟩:∃ wx,wx=wr.alloc (.cells #[.int .i64 x.k,.string x.nm,.slice aq.ea x.ex.length aq.ec,.slice aq.ca x.cols.length aq.cc,.slice aq.la x.left.length aq.lc,.slice aq.ra x.right.length aq.rc,.slice aq.ga x.ag.length aq.gc,.slice aq.ka x.kids.length aq.kc] 27):=⟨_,rfl⟩
    have hbx:Below wr.heap.size wr wx:=by rw [dN];exact (anl _ _).alloc (ank _) _
    have hnx:wx.heap[wr.heap.size]?=some (.cells #[.int .i64 x.k,.string x.nm,.slice aq.ea x.ex.length aq.ec,.slice aq.ca x.cols.length aq.cc,.slice aq.la x.left.length aq.lc,.slice aq.ra x.right.length aq.rc,.slice aq.ga x.ag.length aq.gc,.slice aq.ka x.kids.length aq.kc] 27 (0,0)):=by rw [dN];exact anm wr _
    have hbw:=dC.out.trans (hbx.mono dC.out.size)
    have hcl:=HM.out x (anq hx) (YR.out x (anq hx)) (HFK.out x (anq hx)) aq wx.drew ((hat.kept (w':=wx.drew) fun k hk=>hbw.block k hk).mono fun k hk=>anp hk hbw.size)
    simp only [P.val] at hcl
    have jq:=anc hcl
    have iJ:Hid (Below wr.heap.size wr wx.drew):=anc hbx.drew
    have g0:=(ay (HK.out.bel hbx).box).1.2.2.2.1
    have jM:=anc dN
    obtain ⟨z0,z1,z2,z3,z4,z5,z6,z7,_,_,_,_,_,_,_,_⟩:=az hnx
    obtain ⟨y,hy⟩:∃ y,y=aV x:=⟨_,rfl⟩
    rw [←hy] at jq htk
    clear dN hbx hnx hx hat hcs hcw hbw hcl hy
    obtain ⟨tk,ts,tn,tl,ta⟩:=y
    generalize x.k=xk at *
    generalize x.nm=Kv at *
    generalize x.ex.length=x1 at *
    generalize x.cols.length=x2 at *
    generalize x.left.length=x3 at *
    generalize x.right.length=x4 at *
    generalize x.ag.length=x5 at *
    generalize x.kids.length=x6 at *
    obtain ⟨qa,qb,qc,qd,qe,qf,qg,qh,qi,qj,qk,ql⟩:=aq
    simp only at m0 m1 m2 m3 m4 m5 m6 m7 z0 z1 z2 z3 z4 z5 z6 z7 jq jM
    go_upto_region 36 with (fail)
    rw [←jM.out]
    go_region_law (first
     | (refine step_append_lies _ rfl _ _ _ rfl w3.heap.size 71 i0 _ 5 64 Tryz.underlying69 hi hz0 hz1 hz2 rfl (by decide) _ _ _ rfl (kQ.out.own.alloc _) ⟨w6.heap.size,0,none⟩ 1 1 (TP.cs ((.mk tk ts tn tl ta:T),A6,c6)) rfl rfl (World.news_of_block (anm w6 _)) (by rw [←bD];exact bG _) (by decide) (Cm hpl2.out) (vS hpl2.out) CB.out _ rfl ?_;intro g' cap w7 fU hgrow hat Ee
        have Ef:=anc fU
        have uU:Hid (w6.grownBy w7 v.ownBlock):=anc ((World.grownBy_alloc _ _ _).trans hgrow)
        have qI:Hid ((Value.slice (some ⟨g',0,none⟩) (ps.length+1) cap).ownBlock=v.ownBlock∨∃ n,(Value.slice (some ⟨g',0,none⟩) (ps.length+1) cap).ownBlock=some n∧w6.heap.size≤n):=anc (hat.imp (fun h=>h.symm) fun h=>⟨g',rfl,by rw [h];exact (aG w6 _ _).size⟩)
        have DV:=anc ((uU.out.block w5.heap.size kQ.out.lt (fun e=>kQ.out.AP e.symm)).trans kQ.out.box)
        obtain ⟨⟨p0,p1,p2,p3,p4⟩,q0,q1,q2,q3,q4⟩:=ay DV.out
        clear fU hgrow hat)
     | (go_simp;go_at_call 32;refine (jq.out).mono ?_;rintro e w6 ⟨⟨A6,c6,rfl,hc6,CE⟩,hb6⟩
        simp only [T.val,T.k,T.s,T.n,T.kids,T.at_]
        have kQ:=anc (HK.out.bel (iJ.out.trans (hb6.mono iJ.out.size)))
        have CB:Hid (w3.heap.size≤(w6.alloc (.cells #[.int .i64 tk,.string ts,.int .i64 tn,.slice A6 tl.length c6,.int .i64 ta] 71)).heap.size):=anc (anv (anv qH.out (Nat.le_of_lt kQ.out.lt)) (aG w6 _ _).size)
        have g3:w6.cell? ⟨w5.heap.size,3,none⟩=some v:=(ay kQ.out.box).1.2.2.2.1
        have Ro:(w6.alloc (.cells #[.int .i64 tk,.string ts,.int .i64 tn,.slice A6 tl.length c6,.int .i64 ta] 71)).cell? ⟨w5.heap.size,3,none⟩=some v:=(World.cell?_alloc_some _ _ _ (by rw [g3];rfl)).trans g3
        have CG:=anc CE
        have zu:=anc hc6
        clear CE hc6
        clear hb6))
    all_goals
     go_wp2_with fail
     go_roundw
     case measure=>exact zo hlt
     case rel=>exact ⟨j+1,hlt,by simp,_,_,kQ.out.step (xs:=[((.mk tk ts tn tl ta:T),A6,c6)]) (sz:=wr.heap.size) uU.out (by rw [bD];exact Ef.out) qI.out (zq zu.out (CG.out.mono fun k hk=>⟨anv iJ.out.size hk.1,hk.2⟩)) (anv qH.out (Nat.le_of_lt HK.out.lt)) HK.out.lt Jg.out,by rw [List.map_append,rq.out,htk.out];rfl⟩
   ·have he:Hid (ps.map Prod.fst=base++kids.map aV):=anc (by rw [rq.out,List.take_of_length_le (by have:=Yu.out;omega)])
    obtain ⟨A9,c9,rfl,Gp,wG⟩:=Oj HK.out (by have:=hpl2.out;omega)
    rw [he.out] at Gp wG
    have Zf:=anc HK.out.box
    rw [he.out] at Zf
    have EE:=anc wG
    have ET:=anc ((HK.out.below.block _ hs2).trans HR1.out)
    have ae7:=anc HK.out.below
    generalize hLL:base++kids.map aV=LL at *
    obtain ⟨⟨k0,k1,k2,k3,k4⟩,f0,f1,f2,f3,f4⟩:=ay Zf.out
    obtain ⟨⟨q0,q1,q2,q3,q4⟩,e0,e1,e2,e3,e4⟩:=ay ET.out
    clear HK wG hpl2 hLL
    go_wp2_with fail
    refine ano (gm rfl rfl (aB ET.out)) rfl ?_
    rw [hfin.out]
    exact GH HB1.out ae7.out Gp EE.out (Nat.le_succ _) hs2 ⟨rfl,rfl,rfl,rfl,rfl⟩
theorem zy:∀ p,GG p:=P.ind Mc
end Go.Proofs.YtjhkihkiebnpaaaGreatDoor
