/-
  Package plan's reader: plan.
-/
import Derived.Test.YtjhkihkiebnpaaaGreatDoorMj0
import Derived.Test.YtjhkihkiebnpaaaGreatDoorMj5
import Derived.Deep.DeepCutAuto
import Derived.IntWalk
import Derived.Deep.CutBlock
import Derived.Deep.RegionLaw
import Derived.Deep.AppendLies
import Derived.Lib.ParseIntBTie
import Derived.Test.YtjhkihkiebnpaaaGreatDoorMj4
import Derived.Test.YtjhkihkiebnpaaaGreatDoorMj1
set_option linter.unusedVariables false
set_option linter.unusedSimpArgs false
set_option maxRecDepth 100000
set_option maxHeartbeats 40000000
namespace Go.Proofs.YtjhkihkiebnpaaaGreatDoor
open Go.RowKit
inductive T.Small:T→Prop
 | mk (k:Int)(s:ByteArray)(n:Int)(l:List T)(a:Int)(hl:l.length≤600)(h:∀ e∈l,T.Small e):T.Small (.mk k s n l a)
def zA (g:Nat)(w:World)(q:P×jL)(r:Ending)(w':World):Prop :=
 (∃ a,r=.returned (q.1.val a)∧kY w' (fun k=>w.heap.size≤k∧k<w'.heap.size) q.1 a)∧Only g w w'∧sU w' g q.2
def Ot (t:T):Prop:=T.Small t→∀ (A:Option Addr)(c:Nat)(g:Nat)(st:jL)(w:World),sU w g st→t.kids.length≤c→fA w g A t.kids →
 Calls Tryz.prog 30 #[.pointer (some ⟨g,0,none⟩),t.val A c] w (zA g w (fU t st))
theorem Ou (w:List UInt8)(l:List T):gJ w l=0∨(gJ w l=1∧l.length=2)∨(gJ w l=2∧l.length=3)∨(gJ w l=3∧3≤l.length∧(fV l 1).all fE=true) ∨
 (gJ w l=4∧l.length=5)∨(gJ w l=5∧l.length=3)∨(gJ w l=6∧l.length=2)∨(gJ w l=7∧3≤l.length∧(fV l 2).all kG=true):=by
 unfold gJ
 repeat' split
 all_goals simp_all
theorem Hy (l:List T)(st:jL):gu l l.length st=([],st):=by rw[lq,List.drop_length,gu]
theorem Hz {w:World} {S:Nat→Prop} {g:Nat} {e:E} {A:Option Addr} {c:Nat} {t:TypeId} (hb:w.heap[g]?=some (.cells #[.int .i64 e.k,.string e.s,.int .i64 e.n,.slice A e.kids.length c] t (0,0)))(hg:S g)(h:jG w S A e.kids):jG w S (some ⟨g,0,none⟩) [e]:=by
 obtain⟨⟨k0,k1,k2,k3⟩,_⟩:=fQ hb
 refine .mk g 0 [e] (by simp) hg (fun _=>A) (fun _=>c) (fun i x hx=>?_) (fun i x hx=>?_)
 ·cases i with
  | zero=>obtain rfl:e=x:=by simpa using hx
          exact⟨k0,k1,k2,k3⟩
  | succ i=>simp at hx
 ·cases i with
  | zero=>obtain rfl:e=x:=by simpa using hx
          exact h
  | succ i=>simp at hx
theorem RV {ln kn c:Nat} (h1:kn≤ln)(h0:kn=1∨kn=2)(hc:ln≤c)(h6:ln≤600):∃ d:Nat,(ln:Int)-(kn:Int)=(d:Int)∧d≤ln∧(d:Int)≤(ln:Int)∧(0:Int)≤(d:Int)∧wrap64 (d:Int)=(d:Int)∧¬c=d∧kn+d=ln∧d=ln-kn :=
 ⟨ln-kn,by omega,by omega,by omega,by omega,IntWalk.wrap64_in _ (by omega),by omega,by omega,rfl⟩
def adO (g pb:Nat)(w2 wc:World)(a0:PA)(p0:P)(l:List T)(d kn:Nat)(st0:jL)(i:Value)(wr:World):Prop :=
 ∃ (j:Nat)(ps:List QP)(v:Value)(stj:jL),j≤kn∧i=.int .i64 j∧ps.length=j ∧
   wr.heap[pb]?=some (.cells #[.int .i64 p0.k,.string p0.nm,.slice a0.ea p0.ex.length a0.ec,.slice a0.ca p0.cols.length a0.cc,.slice a0.la p0.left.length a0.lc,.slice a0.ra p0.right.length a0.rc,.slice a0.ga p0.ag.length a0.gc,v] 27 (0,0)) ∧
   wr.ownsRow wc.heap.size 27 8 v j (nI ps)∧(∀ p∈ps,kY wr (fun k=>wc.heap.size≤k∧k<wr.heap.size∧v.ownBlock≠some k) p.1 p.2) ∧
   Only g w2 wr∧(∀ k,pb<k→k<wc.heap.size→wr.heap[k]?=wc.heap[k]?)∧sU wr g stj ∧
   gu (l.drop d) 0 st0=(ps.map Prod.fst++(gu (l.drop (d+j)) 0 stj).1,(gu (l.drop (d+j)) 0 stj).2)∧wc.heap.size≤wr.heap.size
theorem fA.at3 {w:World} {B b o:Nat} {l:List T} (h:fA w B (some ⟨b,o,none⟩) l) {d j:Nat} {x:T} (hx:l[d+j]?=some x) :
 ∃ A' c',b<B∧w.cell? ⟨b,o+d*5+j*5,none⟩=some (.int .i64 x.k)∧w.cell? ⟨b,o+d*5+j*5+1,none⟩=some (.string x.s) ∧
   w.cell? ⟨b,o+d*5+j*5+2,none⟩=some (.int .i64 x.n)∧w.cell? ⟨b,o+d*5+j*5+3,none⟩=some (.slice A' x.kids.length c')∧w.cell? ⟨b,o+d*5+j*5+4,none⟩=some (.int .i64 x.at_)∧x.kids.length≤c'∧fA w B A' x.kids:=by
 cases h with
 | nil A=>simp at hx
 | mk _ _ _ hn hlt A c h hk =>
   obtain⟨h1,h2,h3,h4,h5,h6⟩:=h (d+j) x hx
   rw[show o+(d+j)*5=o+d*5+j*5 by omega] at h1 h2 h3 h4 h5
   exact⟨A (d+j),c (d+j),hlt,h1,h2,h3,h4,h5,h6,hk _ x hx⟩
theorem aaI {l:List T} {ln kn d j:Nat} (h1:ln=l.length)(h2:kn+d=ln)(h3:j<kn):d+j<l.length:=by omega
theorem lnd {ln kn d:Nat} (h2:kn+d=ln):ln-d=kn:=by omega
theorem Dc {j kn:Nat} (h:j<kn):kn-(intOf (Value.int .i64 ((j:Int)+1))).toNat<kn-(intOf (Value.int .i64 (j:Int))).toNat:=by
 simp[intOf];omega
theorem RX {g pb:Nat} {w2 wc wr wx w3 w5:World} {a0 aq:PA} {p0:P} {l:List T} {d kn j g' cap:Nat} {st0 stj:jL} {ps:List QP} {v:Value} {q:P×jL}
 (hj:j<kn)(hpl:ps.length=j)(KW:pb<wc.heap.size)(rC:g<pb)(hw2:w2.heap.size≤pb)
 (hown:wr.ownsRow wc.heap.size 27 8 v j (nI ps))(hxk:∀ p∈ps,kY wr (fun k=>wc.heap.size≤k∧k<wr.heap.size∧v.ownBlock≠some k) p.1 p.2)
 (ho:Only g w2 wr)(hold:∀ k,pb<k→k<wc.heap.size→wr.heap[k]?=wc.heap[k]?)(CZ:wc.heap.size≤wr.heap.size)
 (hz:gu (l.drop d) 0 st0=(ps.map Prod.fst++(gu (l.drop (d+j)) 0 stj).1,(gu (l.drop (d+j)) 0 stj).2))
 (hst:gu (l.drop (d+j)) 0 stj=(q.1::(gu (l.drop (d+j+1)) 0 q.2).1,(gu (l.drop (d+j+1)) 0 q.2).2))
 (hbx:Below wr.heap.size wr wx)(ho3:Only g wx w3)(hr3:sU w3 g q.2)(hX:kY w3 (fun k=>wx.drew.heap.size≤k∧k<w3.heap.size) q.1 aq)
 (hg5:w3.grownBy w5 v.ownBlock)(iJ:w5.ownsRow wc.heap.size 27 8 (.slice (some ⟨g',0,none⟩) (j+1) cap) (j+1) (nI ps++QP.cs (q.1,aq)))
 (hat:(Value.slice (some ⟨g',0,none⟩) (j+1) cap).ownBlock=v.ownBlock∨∃ n,(Value.slice (some ⟨g',0,none⟩) (j+1) cap).ownBlock=some n∧w3.heap.size≤n)
 (he5:w5.heap[pb]?=some (.cells #[.int .i64 p0.k,.string p0.nm,.slice a0.ea p0.ex.length a0.ec,.slice a0.ca p0.cols.length a0.cc,.slice a0.la p0.left.length a0.lc,.slice a0.ra p0.right.length a0.rc,.slice a0.ga p0.ag.length a0.gc,v] 27 (0,0))) :
 adO g pb w2 wc a0 p0 l d kn st0 (.int .i64 ((j:Int)+1)) (w5.setCell ⟨pb,7,none⟩ (.slice (some ⟨g',0,none⟩) (j+1) cap)):=by
 have s1:=hbx.size
 have s2:=ho3.size
 have s5:=hg5.size
 have hv1:∀ k,v.ownBlock=some k→wc.heap.size≤k∧k<wr.heap.size:=fun k e=>hown.lt k e
 have hX':kY w3 (fun k=>wr.heap.size≤k∧k<w3.heap.size) q.1 aq:=hX.mono fun k hk=>⟨aS s1 hk.1,hk.2⟩
 have hne:g'≠pb:=fun e=>by
  rcases hat with h|⟨n,h,h2⟩
  ·have:=hv1 g' (by rw[←h];rfl);omega
  ·have:n=g':=by simpa [Value.ownBlock] using h.symm
   omega
 have hoth:∀ k,k≠pb→k≠g→k<wr.heap.size→v.ownBlock≠some k→(w5.setCell ⟨pb,7,none⟩ (.slice (some ⟨g',0,none⟩) (j+1) cap)).heap[k]?=wr.heap[k]?:=fun k h1 h2 h3 h4 =>
  (aI w5 ⟨pb,7,none⟩ _ k h1).trans ((hg5.block k (by omega) fun e=>h4 e.symm).trans ((ho3.block k (by omega) h2).trans (hbx.block k h3)))
 have U7:∀ k,wr.heap.size≤k→k<w3.heap.size→(w5.setCell ⟨pb,7,none⟩ (.slice (some ⟨g',0,none⟩) (j+1) cap)).heap[k]?=w3.heap[k]?:=fun k h1 h2 =>
  (aI w5 ⟨pb,7,none⟩ _ k (by show k≠pb;omega)).trans (hg5.block k h2 fun e=>by have:=(hv1 k e.symm).2;omega)
 refine⟨j+1,ps++[(q.1,aq)],.slice (some ⟨g',0,none⟩) (j+1) cap,q.2,hj,by simp,by rw[aZ,hpl];rfl,jm (k:=7) he5,?_,?_,?_,?_,?_,?_,?_⟩
 ·rw[yR,Aq]
  exact nK iJ (aI w5 ⟨pb,7,none⟩ _ g' hne)
 ·have h6:(w5.setCell ⟨pb,7,none⟩ (.slice (some ⟨g',0,none⟩) (j+1) cap)).heap.size=w5.heap.size:=by simp[World.setCell]
  exact Ko hxk hX' CZ (fun k h1 h2 h3=>hoth k (by omega) (by omega) h2 h3) (fun k h1 h2=>U7 k h1 h2) (aS s1 s2) (by rw[h6];exact s5) (fun k e=>(hv1 k e).2) hat
 ·exact (((ho.bel hbx).trans ho3).grown hg5 (fun k e=>by have:=(hv1 k e).1;omega)).dQ (p:=⟨pb,7,none⟩) hw2 _
 ·intro k h1 h2
  exact (hoth k (by omega) (by omega) (by omega) (fun e=>by have:=(hv1 k e).1;omega)).trans (hold k h1 h2)
 ·exact (aI w5 ⟨pb,7,none⟩ _ g (by show g≠pb;omega)).trans ((hg5.block g hr3.lt (fun e=>by have:=(hv1 g e.symm).1;omega)).trans hr3)
 ·rw[hz,hst,List.map_append,List.append_assoc]
  rfl
 ·simp only[World.setCell,Array.size_modify]
  omega
theorem U8 {l:List T} {d kn ln j:Nat} {st0 stj:jL} {ps:List QP} (h1:ln=l.length)(h2:kn+d=ln)(h3:d=ln-kn)(hj:j≤kn)(hn:¬j<kn)
 (hz:gu (l.drop d) 0 st0=(ps.map Prod.fst++(gu (l.drop (d+j)) 0 stj).1,(gu (l.drop (d+j)) 0 stj).2)):gu l (ln-kn) st0=(ps.map Prod.fst,stj):=by
 rw[lq,←h3,hz,List.drop_eq_nil_of_le (by omega),gu,List.append_nil]
theorem U9 {g pb:Nat} {w w2 wc wr:World} {a0:PA} {p0:P} {A9:Option Addr} {c9:Nat} {ks:List P} {stj:jL} (hg:g<w.heap.size)(h2:w.heap.size+1<w2.heap.size)(hpb:w2.heap.size≤pb)(KW:pb<wc.heap.size)(CZ:wc.heap.size≤wr.heap.size)
 (how:Only g w w2)(ho:Only g w2 wr)(hold:∀ k,pb<k→k<wc.heap.size→wr.heap[k]?=wc.heap[k]?)(hparts:nU wc (fun k=>pb<k∧k<wc.heap.size) p0 a0)(hr:sU wr g stj)
 (hX:CE wr (fun k=>wc.heap.size≤k∧k<wr.heap.size) A9 ks) {x0 x1 x2 x3 x4 x5 x6 x7:Value} (hx:Value.agg #[x0,x1,x2,x3,x4,x5,x6,x7]=(p0.put ks).val { a0 with ka:=A9,kc:=c9 }) :
 zA g w (p0.put ks,stj) (.returned (.agg #[x0,x1,x2,x3,x4,x5,x6,x7])) (uY wr (w.heap.size+1) x0 x1 x2 x3 x4 x5 x6 x7):=by
 refine⟨⟨{ a0 with ka:=A9,kc:=c9 },by rw[hx],?_,?_⟩,Ar (how.trans ho) (aW _),(jH (by omega)).trans hr⟩
 ·have h:=(hparts.kept fun k hk=>(jH (x0:=x0) (x1:=x1) (x2:=x2) (x3:=x3) (x4:=x4) (x5:=x5) (x6:=x6) (x7:=x7) (p:=w.heap.size+1) (by have:=hk.1;omega)).trans (hold k hk.1 hk.2)).mono (S':=fun k=>w.heap.size≤k∧k<(uY wr (w.heap.size+1) x0 x1 x2 x3 x4 x5 x6 x7).heap.size) (fun k hk=>⟨by have:=hk.1;omega,by rw[mV];have:=hk.2;omega⟩)
  exact⟨h.ex,h.cols,h.left,h.right,h.ag,h.l1,h.l2,h.l3,h.l4,h.l5⟩
 ·exact (hX.kept fun k hk=>jH (by have:=hk.1;omega)).mono fun k hk=>⟨by have:=hk.1;omega,by rw[mV];exact hk.2⟩
theorem adP {j kn:Nat} (h:j≤kn)(h2:kn=1∨kn=2):j≤9223372036854775807:=by omega
theorem Qp (p0:P)(ks:List P)(a0:PA)(A9:Option Addr)(c9:Nat):(p0.put ks).val { a0 with ka:=A9,kc:=c9 }=.agg #[.int .i64 p0.k,.string p0.nm,.slice a0.ea p0.ex.length a0.ec,.slice a0.ca p0.cols.length a0.cc,.slice a0.la p0.left.length a0.lc,.slice a0.ra p0.right.length a0.rc,.slice a0.ga p0.ag.length a0.gc,.slice A9 ks.length c9]:=rfl
theorem T.Small.len {x:T} (h:T.Small x):x.kids.length≤600:=by cases h;assumption
theorem Qq {j:Nat} (h:j≤600):j+1≤maxLen:=by unfold maxLen;omega
theorem ag7 {j kn:Nat} (h:j<kn)(h2:kn=1∨kn=2):j≤600:=by omega
theorem KX {j:Nat} (h:j≤600):(j+1)*168≤140737488355328:=by omega
theorem Va {g:Nat} {w2 w3 w4 w5:World} {l:List T} {x y:T} {a:Int} {st:jL} {A4 A5:Option Addr} {c4 c5 xm ym:Nat}
 (hL4:Lies w4 (fun k=>w3.drew.heap.size≤k∧k<w4.heap.size) A4 (strs (x.kids.map T.s)))(hL5:Lies w5 (fun k=>w4.heap.size≤k∧k<w5.heap.size) A5 (strs (y.kids.map T.s)))(vJ:Only g w3 w4)(iJ:Only g w4 w5)
 (oI:sU w5 g (jc y.kids (jc x.kids st)))(hs7:Only g w2 ((w5.setCell ⟨w2.heap.size,4,none⟩ (.slice A4 xm c4)).setCell ⟨w2.heap.size,5,none⟩ (.slice A5 ym c5)))
 (ZM:((w5.setCell ⟨w2.heap.size,4,none⟩ (.slice A4 xm c4)).setCell ⟨w2.heap.size,5,none⟩ (.slice A5 ym c5)).heap[w2.heap.size]?=some (.cells #[.int .i64 4,.string ⟨#[]⟩,.slice none 0 0,.slice none 0 0,.slice A4 xm c4,.slice A5 ym c5,.slice none 0 0,.slice none 0 0] 27 (0,0)))
 (hs3:w2.heap.size<w3.heap.size)(hkl:dY 4≤l.length)(hxl:x.kids.length=xm)(hyl:y.kids.length=ym)(Ul:xm≤c4)(hyc:ym≤c5)(hg:g<w2.heap.size)(hx6:x.kids.length≤600)(hy6:y.kids.length≤600)
 (hbp:eU 4 l=.mk 4 ⟨#[]⟩ [] [] (x.kids.map T.s) (y.kids.map T.s) [] [])(hbr:iR 4 l a st=jc y.kids (jc x.kids st)) :
 XG g w2.heap.size w2 4 l (iR 4 l a st) (.int .i64 2) ((w5.setCell ⟨w2.heap.size,4,none⟩ (.slice A4 xm c4)).setCell ⟨w2.heap.size,5,none⟩ (.slice A5 ym c5)):=by
 have z4:=vJ.size
 have z5:=iJ.size
 have z3:w3.drew.heap.size=w3.heap.size:=rfl
 have hoth:∀ k,k≠w2.heap.size→((w5.setCell ⟨w2.heap.size,4,none⟩ (.slice A4 xm c4)).setCell ⟨w2.heap.size,5,none⟩ (.slice A5 ym c5)).heap[k]?=w5.heap[k]?:=fun k h =>
  (aI _ ⟨w2.heap.size,5,none⟩ _ k h).trans (aI _ ⟨w2.heap.size,4,none⟩ _ k h)
 have hsz:((w5.setCell ⟨w2.heap.size,4,none⟩ (.slice A4 xm c4)).setCell ⟨w2.heap.size,5,none⟩ (.slice A5 ym c5)).heap.size=w5.heap.size:=by simp[World.setCell]
 refine⟨{ ru with la:=A4,lc:=c4,ra:=A5,rc:=c5 },rfl,.inr rfl,hkl,?_,?_,hs7,?_⟩
 ·rw[ZM,hbp]
  simp only[P.k,P.nm,P.ex,P.cols,P.left,P.right,P.ag,bM,hxl,hyl]
  rfl
 ·rw[hbp]
  refine⟨.nil _,.inl rfl,?_,?_,.inl rfl,by simp[P.ex],by simp[P.cols],by simp only[P.left,bM];exact⟨by omega,by rw[hxl];exact Ul⟩,by simp only[P.right,bM];exact⟨by omega,by rw[hyl];exact hyc⟩,by simp[P.ag]⟩
  ·exact (hL4.kept fun k hk=>(hoth k (by have:=hk.1;omega)).trans (iJ.block k hk.2 (by have:=hk.1;omega))).mono fun k hk=>⟨by have:=hk.1;omega,by rw[hsz];have:=hk.2;omega⟩
  ·exact (hL5.kept fun k hk=>hoth k (by have:=hk.1;omega)).mono fun k hk=>⟨by have:=hk.1;omega,by rw[hsz];exact hk.2⟩
 ·rw[hbr]
  exact (hoth g (by omega)).trans oI
theorem RY (k:Int)(s:ByteArray)(n:Int)(l:List T)(a:Int)(hM:∀ e∈l,Ot e):Ot (.mk k s n l a):=by
 intro hsm A c g st w h hc hA
 obtain⟨_,_,_,_,_,Aw,hks⟩:=hsm
 rw[fU]
 have hkind:=fun w' hA'=>Us (.mk k s n l a) A c w' hc hA'
 have hshape:=Ou (lh (.mk k s n l a)).toList l
 rw[show gJ (lh (.mk k s n l a)).toList l=jK (.mk k s n l a) from rfl] at hshape
 generalize jK (.mk k s n l a)=kd at *
 simp only[T.val,T.k,T.s,T.n,T.kids,T.at_] at hc hA hkind ⊢
 have hlt:=h.lt
 obtain⟨ln,rH⟩:∃ ln,ln=l.length:=⟨_,rfl⟩
 obtain⟨wa,qx⟩:∃ wa,wa=w.alloc (.cells #[.int .i64 k,.string s,.int .i64 n,.slice A ln c,.int .i64 a] 71):=⟨_,rfl⟩
 have hba:Below w.heap.size w wa:=by rw[qx];exact (aG _ _).alloc (aF _) _
 have hsa:wa.heap.size=w.heap.size+1:=by rw[qx];simp
 have hxa:wa.heap[w.heap.size]?=some (.cells #[.int .i64 k,.string s,.int .i64 n,.slice A ln c,.int .i64 a] 71 (0,0)):=by rw[qx];exact aH w _
 obtain⟨w1,dZ⟩:∃ w1,w1=wa.alloc (.cells #[.int .i64 0,.string ⟨#[]⟩,.slice none 0 0,.slice none 0 0,.slice none 0 0,.slice none 0 0,.slice none 0 0,.slice none 0 0] 27):=⟨_,rfl⟩
 have hb1:Below wa.heap.size wa w1:=by rw[dZ];exact (aG _ _).alloc (aF _) _
 have hs1:w.heap.size+1<w1.heap.size:=by rw[dZ];simp;omega
 have hr1:w1.heap[w.heap.size+1]?=some (.cells #[.int .i64 0,.string ⟨#[]⟩,.slice none 0 0,.slice none 0 0,.slice none 0 0,.slice none 0 0,.slice none 0 0,.slice none 0 0] 27 (0,0)):=by rw[dZ,←hsa];exact aH wa _
 have hx1:w1.heap[w.heap.size]?=some (.cells #[.int .i64 k,.string s,.int .i64 n,.slice A ln c,.int .i64 a] 71 (0,0)):=(hb1.block _ (by omega)).trans hxa
 have hbw:Below w.heap.size w w1:=hba.trans (hb1.mono (by omega))
 have Nu:=ae (hkind w1 ((hA.low (hbw.mono (bV hlt))).more (by omega)))
 rw[←rH] at Nu
 have HW1:=ae (show w1=(w.alloc (.cells #[.int .i64 k,.string s,.int .i64 n,.slice A ln c,.int .i64 a] 71)).alloc (.cells #[.int .i64 0,.string ⟨#[]⟩,.slice none 0 0,.slice none 0 0,.slice none 0 0,.slice none 0 0,.slice none 0 0,.slice none 0 0] 27) by rw[dZ,qx])
 have Nk:=ae (hA.low (hbw.mono (bV hlt)))
 have HR1:=ae (h.kept hbw)
 have jJ:=ae hx1
 have HT1:=ae hr1
 have HB1:=ae hbw
 have kC:=ae rH
 have HM:=ae hM
 have Vb:=ae hks
 obtain⟨⟨k0,k1,k2,k3,k4⟩,_,_,_,_,_⟩:=dN hx1
 rw[←rH]
 clear qx hba hsa hxa dZ hb1 hr1 hx1 hbw h hA hkind hM hks rH wa
 go_enter Tryz.func30,Tryz.ntmps30
 go_upto_region 1 with (fail)
 rw[←HW1.o]
 go_wp2_with fail
 refine (Nu.o).mono ?_
 rintro e w2 ⟨rfl,hb2⟩
 have HB2:=ae hb2
 have hs2:=hb2.size
 have iI:=ae ((hb2.block w.heap.size (by omega)).trans jJ.o)
 have HT2:=ae ((hb2.block (w.heap.size+1) (by omega)).trans HT1.o)
 have HR2:=ae (HR1.o.kept hb2)
 have xQ:=ae (Nk.o.low (hb2.mono (by omega:g≤w1.heap.size)))
 clear hb2 k0 k1 k2 k3 k4
 obtain⟨w3,ny⟩:∃ w3,w3=w2.alloc (.cells #[.int .i64 kd,.string ⟨#[]⟩,.slice none 0 0,.slice none 0 0,.slice none 0 0,.slice none 0 0,.slice none 0 0,.slice none 0 0] 27):=⟨_,rfl⟩
 have hb3:Below w2.heap.size w2 w3:=by rw[ny];exact (aG _ _).alloc (aF _) _
 have hs3:w2.heap.size<w3.heap.size:=by rw[ny];simp
 have nO:=ae ((hb3.block w.heap.size (by omega)).trans iI.o)
 have HT3:=ae ((hb3.block (w.heap.size+1) (by omega)).trans HT2.o)
 have HR3:=ae (HR2.o.kept hb3)
 have RF:=ae (xQ.o.low (hb3.mono (by omega:g≤w2.heap.size)))
 have Gj:Hid (w3.heap[w2.heap.size]?=some (.cells #[.int .i64 kd,.string ⟨#[]⟩,.slice none 0 0,.slice none 0 0,.slice none 0 0,.slice none 0 0,.slice none 0 0,.slice none 0 0] 27 (0,0))):=ae (by rw[ny];exact aH w2 _)
 have Nj:Hid (Only g w w3):=ae (((dU HB1.o).bel HB2.o).bel hb3)
 have HW3:=ae ny
 have X3:Hid (Only g w2 w3):=ae (dU hb3)
 clear ny hb3 HR2 jJ HT1 HR1 Nk
 go_upto_region 2 with (fail)
 rw[←HW3.o]
 obtain⟨⟨k0,k1,k2,k3,k4⟩,_,_,_,_,_⟩:=dN nO.o
 have zB:Hid (Only g w2 w3):=ae X3.o
 obtain⟨d0,d1,d2,d3,d4,d5,d6,d7,f0,f1,f2,f3,f4,f5,f6,f7⟩:=dO Gj.o
 go_upto_block 0 with (fail)
 clear d0 d1 d2 d3 d4 d5 d6 d7 f0 f1 f2 f3 f4 f5 f6 f7
 go_cut [7] (fun s7 wx=>XG g w2.heap.size w2 kd l (iR kd l a st) s7 wx)
 case first =>
  rcases hshape with rfl|⟨rfl,h2⟩|⟨rfl,h2⟩|⟨rfl,h2,h3⟩|⟨rfl,h2⟩|⟨rfl,h2⟩|⟨rfl,h2⟩|⟨rfl,h2,h3⟩
  ·have HRF:=ae (ik g st 12 a w3 HR3.o)
   have hpl:Hid (gu l (ln-dY 0) (iR 0 l a st)=([],iR 0 l a st)):=ae (by rw[show dY 0=0 from rfl,Nat.sub_zero,kC.o,Hy])
   have hbr:Hid (iR 0 l a st=yH 12 a st):=ae rfl
   have hbp:Hid (eU 0 l=.mk 0 ⟨#[]⟩ [] [] [] [] [] []):=ae rfl
   obtain⟨d0,d1,d2,d3,d4,d5,d6,d7,f0,f1,f2,f3,f4,f5,f6,f7⟩:=dO Gj.o
   go_wp2_with fail
   refine (HRF.o).mono ?_
   rintro e w4 ⟨rfl,vJ,hr4⟩
   have mP:=ae vJ
   have HR4:=ae hr4
   have hs4:=vJ.size
   have zX:=ae ((vJ.block w2.heap.size (by omega) (by omega)).trans Gj.o)
   have HT4:=ae ((vJ.block (w.heap.size+1) (by omega) (by omega)).trans HT3.o)
   clear vJ hr4 d0 d1 d2 d3 d4 d5 d6 d7 f0 f1 f2 f3 f4 f5 f6 f7
   obtain⟨d0,d1,d2,d3,d4,d5,d6,d7,f0,f1,f2,f3,f4,f5,f6,f7⟩:=dO zX.o
   obtain⟨t0,t1,t2,t3,t4,t5,t6,t7,g0,g1,g2,g3,g4,g5,g6,g7⟩:=dO HT4.o
   go_wp2_with fail
   refine aJ (pz rfl rfl (gV HT4.o)) rfl ?_
   unfold zA
   rw[hpl.o,hbp.o,hbr.o]
   exact⟨⟨ru,rfl,kJ _ _ _ _,.nil _⟩,Ar (Nj.o.trans mP.o) (aW _),(jH (by omega)).trans HR4.o⟩
  ·obtain⟨x,hx⟩:∃ x,l[1]?=some x:=⟨_,aO (by omega)⟩
   obtain⟨bx,ox,A1,c1,ex,hgx,x0,x1,x2,x3,x4,hcx,hKx⟩:=RF.o.at (by omega) hx
   subst ex
   rw[Nat.one_mul] at x0 x1 x2 x3 x4
   have HN:=ae (ji x A1 c1 g st w3 HR3.o)
   have hbp:Hid (eU 1 l=.mk 1 x.s [] [] [] [] [] []):=ae (by unfold eU;rw[if_pos rfl,getD_some hx])
   have hbr:Hid (iR 1 l a st=jl x st):=ae (by unfold iR;rw[if_pos rfl,getD_some hx])
   have hpl:Hid (gu l (ln-dY 1) (iR 1 l a st)=([],iR 1 l a st)):=ae (by rw[show dY 1=0 from rfl,Nat.sub_zero,kC.o,Hy])
   have hnm:(T.val x A1 c1)=T.val x A1 c1:=rfl
   have hm1:1<ln:=by rw[kC.o];omega
   have hm2:(1:Int)<(ln:Int):=by omega
   generalize jl x st=st1 at *
   obtain⟨xk,xs,xn,xl,xa⟩:=x
   simp only[T.val,T.k,T.s,T.n,T.kids,T.at_] at x0 x1 x2 x3 x4 HN hbp
   clear hx hcx hKx hnm h2
   generalize xl.length=xm at *
   obtain⟨d0,d1,d2,d3,d4,d5,d6,d7,f0,f1,f2,f3,f4,f5,f6,f7⟩:=dO Gj.o
   go_wp2_with fail
   refine (HN.o).mono ?_
   rintro e w4 ⟨rfl,vJ,hr4⟩
   have mP:=ae vJ
   have HR4:=ae hr4
   have hs4:=vJ.size
   have zX:=ae (jm (k:=1) (u:=.string xs) ((vJ.block w2.heap.size (by omega) (by omega)).trans Gj.o))
   have ag9:=ae ((vJ.block w2.heap.size (by omega) (by omega)).trans Gj.o)
   have HT4:=ae ((aI w4 ⟨w2.heap.size,1,none⟩ (.string xs) (w.heap.size+1) (by show w.heap.size+1≠w2.heap.size;omega)).trans ((vJ.block (w.heap.size+1) (by omega) (by omega)).trans HT3.o))
   clear vJ hr4 d0 d1 d2 d3 d4 d5 d6 d7 f0 f1 f2 f3 f4 f5 f6 f7
   obtain⟨d0,d1,d2,d3,d4,d5,d6,d7,f0,f1,f2,f3,f4,f5,f6,f7⟩:=dO ag9.o
   obtain⟨t0,t1,t2,t3,t4,t5,t6,t7,g0,g1,g2,g3,g4,g5,g6,g7⟩:=dO HT4.o
   obtain⟨r0,r1,r2,r3,r4,r5,r6,r7,_,_,_,_,_,_,_,_⟩:=dO zX.o
   go_wp2_with fail
   refine aJ (pz rfl rfl (gV HT4.o)) rfl ?_
   unfold zA
   rw[hpl.o,hbp.o,hbr.o]
   refine⟨⟨ru,rfl,kJ _ _ _ _,.nil _⟩,Ar ((Nj.o.trans mP.o).dQ (p:=⟨w2.heap.size,1,none⟩) (by show w.heap.size≤w2.heap.size;omega) _) (aW _),?_⟩
   exact (jH (by omega)).trans ((aI w4 ⟨w2.heap.size,1,none⟩ _ g (by show g≠w2.heap.size;omega)).trans HR4.o)
  ·obtain⟨x,hx⟩:∃ x,l[1]?=some x:=⟨_,aO (by omega)⟩
   obtain⟨bx,ox,A1,c1,ex,hgx,x0,x1,x2,x3,x4,hcx,hKx⟩:=RF.o.at (by omega) hx
   subst ex
   rw[Nat.one_mul] at x0 x1 x2 x3 x4
   have HN:=ae (GU x A1 c1 g st w3 HR3.o hcx (hKx.more (by omega)))
   have hbp:Hid (eU 2 l=.mk 2 ⟨#[]⟩ [(dX x).1] [] [] [] [] []):=ae (by unfold eU;rw[if_neg (by decide),if_pos rfl,getD_some hx])
   have hbr:Hid (iR 2 l a st=qo x st):=ae (by unfold iR;rw[if_neg (by decide),if_pos rfl,getD_some hx])
   have hm1:1<ln:=by rw[kC.o];omega
   have hm2:(1:Int)<(ln:Int):=by omega
   have NI:dY 2≤l.length:=by rw[show dY 2=1 from rfl];omega
   generalize qo x st=st1 at *
   generalize (dX x).1=ex at *
   obtain⟨xk,xs,xn,xl,xa⟩:=x
   obtain⟨ek,es,en,el⟩:=ex
   simp only[T.val,E.val,E.k,E.s,E.n,E.kids,T.k,T.s,T.n,T.kids,T.at_] at x0 x1 x2 x3 x4 HN
   clear hx hcx hKx h2
   generalize xl.length=xm at *
   obtain⟨em,hem⟩:∃ em,em=el.length:=⟨_,rfl⟩
   rw[←hem] at HN
   obtain⟨d0,d1,d2,d3,d4,d5,d6,d7,f0,f1,f2,f3,f4,f5,f6,f7⟩:=dO Gj.o
   have yt:=ae hem
   clear hem
   go_wp2_with fail
   refine (HN.o).mono ?_
   rintro e w4 ⟨⟨A4,c4,rfl,hX4⟩,vJ,hr4⟩
   have uz:=ae hX4
   have mP:=ae vJ
   have HR4:=ae hr4
   have hs4:=vJ.size
   have zX:=ae ((vJ.block w2.heap.size (by omega) (by omega)).trans Gj.o)
   clear vJ hr4 hX4 d0 d1 d2 d3 d4 d5 d6 d7 f0 f1 f2 f3 f4 f5 f6 f7
   obtain⟨d0,d1,d2,d3,d4,d5,d6,d7,f0,f1,f2,f3,f4,f5,f6,f7⟩:=dO ((aP w4 (Obj.cells #[.int .i64 ek,.string es,.int .i64 en,.slice A4 em c4] 38) w2.heap.size (by omega)).trans zX.o)
   go_wp2_with fail
   go_meet
   case rel =>
    have hne:w4.heap.size≠w2.heap.size:=by omega
    refine⟨{ ru with ea:=some ⟨w4.heap.size,0,none⟩,ec:=1 },rfl,.inl rfl,NI,?_,⟨?_,.inl rfl,.inl rfl,.inl rfl,.inl rfl,by rw[hbp.o];simp[P.ex],by rw[hbp.o];simp[P.cols],by rw[hbp.o];simp[P.left],by rw[hbp.o];simp[P.right],by rw[hbp.o];simp[P.ag]⟩,?_,?_⟩
    ·rw[hbp.o]
     exact jm (k:=2) ((aP w4 _ w2.heap.size (by omega)).trans zX.o)
    ·rw[hbp.o]
     refine Hz (e:=.mk ek es en el) (A:=A4) (c:=c4) (t:=38) ?_ ?_ ?_
     ·refine (aI _ ⟨w2.heap.size,2,none⟩ _ _ hne).trans ?_
      show (w4.alloc _).heap[_]?=some (Obj.cells #[.int .i64 ek,.string es,.int .i64 en,.slice A4 el.length c4] _ _)
      rw[←yt.o]
      exact aH w4 _
     ·refine⟨by omega,?_⟩
      simp[World.setCell]
     ·refine (uz.o.kept fun k hk=>(aI _ ⟨w2.heap.size,2,none⟩ _ k (by show k≠w2.heap.size;have:=hk.1;omega)).trans (aP w4 _ k hk.2)).mono fun k hk=>⟨by have:=hk.1;omega,?_⟩
      have:=hk.2
      simp[World.setCell]
      omega
    ·exact ((zB.o.trans mP.o).alloc _).dQ (p:=⟨w2.heap.size,2,none⟩) (aF _) _
    ·rw[hbr.o]
     exact (aI _ ⟨w2.heap.size,2,none⟩ _ g (by show g≠w2.heap.size;omega)).trans (HR4.o.kept ((aG _ _).alloc (aF _) _))
  ·have rC:g<w2.heap.size:=aK hlt (aS (bV (Nat.lt_of_succ_lt hs1)) hs2)
   obtain⟨m,e1,y0,hy0,hmid,q1,q2,q3,q4,q5,q6,q7,q8,q9,q10,Np,hkl,hg3,hg3'⟩:=UA kC.o h2 hc Aw rC hs3
   obtain⟨b,o,_,_,e9,hgb,_⟩:=RF.o.at hg3 hy0
   subst e9
   have hml:=CX hmid
   have Ei:=ae hml
   have Ov:=ae (fun j (hj:j<m)=>CY hmid hj)
   have Uc:=ae (fun j (hj:j<m)=>IW hmid hj)
   have hbp:Hid (eU 3 l=.mk 3 ⟨#[]⟩ ((fV l 1).map wW) ((fV l 1).map oP) [] [] [] []):=ae rfl
   have hbr:Hid (iR 3 l a st=qQ (fV l 1) st):=ae rfl
   have C9:=ae (List.all_eq_true.1 h3)
   have AY:g≤w2.heap.size:=bV rC
   generalize hmd:fV l 1=mid at *
   clear hy0 h2 h3 hml hmid hmd
   obtain⟨iS,iS1,iS2,iS3,iS4⟩:=info_parts rW
   obtain⟨iE,iE1,iE2,iE3,iE4⟩:=info_parts wH
   obtain⟨d0,d1,d2,d3,d4,d5,d6,d7,f0,f1,f2,f3,f4,f5,f6,f7⟩:=dO Gj.o
   go_wp2_with fail
   clear q1 q2 q3 q4 q5 q6 q7 q8 q9 q10 d0 d1 d2 d3 d4 d5 d6 d7 f0 f1 f2 f3 f4 f5 f6 f7
   go_loopw [55] (fun i wr=>aap g w2.heap.size w2 w3.heap.size mid st i wr) (fun i _=>m-(intOf i).toNat)
   case atStart=>exact NW Gj.o zB.o HR3.o
   case round =>
    obtain⟨j,ps,v2,v3,hj,rfl,hps,hC⟩:=hrel
    rw[Ei.o] at hj
    have HC:=ae hC
    have uK:=ae hps
    clear hC hps
    by_cases hlt2:j<m
    ·obtain⟨x,hx⟩:=Uc.o j hlt2
     have hxm:=ae ((Ov.o j hlt2).trans hx)
     obtain⟨y,z,hk,hk2⟩:=BK (C9.o x (aN hxm.o))
     have HK:=ae hk
     obtain⟨b2,o2,c2,A3,c3,A4,c4,hc2,hc3,hc4,hF⟩:=Ri xQ.o AY hx hk
     have HF:=ae hF
     have hCL:=ae (NY (f:=oP) Ei.o hj)
     have hPL:=ae (aaq Ei.o hj uK.o)
     have hrs:=ae (DW hxm.o st)
     obtain⟨x0,x1,x2,x3,x4,_,_,_,_,_,_,_,_,_,_,_,_⟩:=hF wr HC.o.only
     obtain⟨wx,iK⟩:∃ wx,wx=wr.alloc (.cells #[.int .i64 x.k,.string x.s,.int .i64 x.n,.slice (some ⟨b2,o2,none⟩) 2 c2,.int .i64 x.at_] 71):=⟨_,rfl⟩
     have hbx:Below wr.heap.size wr wx:=by rw[iK];exact (aG _ _).alloc (aF _) _
     have hnx:wx.heap[wr.heap.size]?=some (.cells #[.int .i64 x.k,.string x.s,.int .i64 x.n,.slice (some ⟨b2,o2,none⟩) 2 c2,.int .i64 x.at_] 71 (0,0)):=by rw[iK];exact aH wr _
     have hnx2:=ae (show wx.heap[wr.heap.size]?=some (.cells #[.int .i64 x.k,.string x.s,.int .i64 x.n,.slice (some ⟨b2,o2,none⟩) x.kids.length c2,.int .i64 x.at_] 71 (0,0)) by rw[hk2];exact hnx)
     have Qd:=ae (HC.o.G9 (dU hbx) (HC.o.rd.kept hbx) rC hs3)
     obtain⟨_,_,_,_,_,y0,y1,y2,y3,y4,_,_,_,_,_,hKy,_⟩:=hF wx Qd.o.only
     have HN:=ae (ji y A3 c3 g (qQ (mid.take j) st) wx.drew Qd.o.rd)
     have ni:=ae iK
     have xO:=ae hbx
     have HDX:=ae (dO Qd.o.box).c3
     have g0:=HDX.o
     have hv3:Hid (v3.ownBlock≠some w2.heap.size):=ae (sZ HC.o.rY hs3)
     obtain⟨⟨n0,n1,n2,n3,n4⟩,_,_,_,_,_⟩:=dN hnx
     have Nv:j≤600:=aS hj Np
     clear hF iK hbx hnx hx hKy hk
     generalize hcs:(mid.take j).map oP=cs at *
     have Rl:=ae hcs
     clear hcs
     generalize hst:qQ (mid.take j) st=stj at *
     have HST:=ae hst
     clear hst
     obtain⟨xk,xs,xn,xl,xa⟩:=x
     obtain⟨yk,ys,yn,yl,ya⟩:=y
     simp only[T.val,T.k,T.s,T.n,T.kids,T.at_] at x0 x1 x2 x3 x4 y0 y1 y2 y3 y4 n0 n1 n2 n3 n4 HN ni hc3
     generalize hyl:yl.length=ym at *
     go_upto_region 16 with (fail)
     rw[←ni.o]
     go_cut [55] (fun s55 wm=>s55=.int .i64 j∧adn g w2.heap.size w2 w3.heap.size wr.heap.size (.mk xk xs xn xl xa) (some ⟨b2,o2,none⟩) c2 v2 ps (cs++[ys]) (jl (.mk yk ys yn yl ya) stj) wm)
     case first =>
      go_region_law (first
       | (refine step_append_lies _ rfl _ _ _ rfl w3.heap.size 9 iS _ 1 16 Tryz.underlying23 iS1 iS2 iS3 iS4 rfl (by decide) _ _ _ rfl (Xj.o.rY.alloc _) ⟨w4.heap.size,0,none⟩ 1 1 [.string ys] rfl rfl (bz (aH w4 _)) DY (by decide) (oq hCL.o Nv) (lX hCL.o Nv (by decide)) (aS Xj.o.size (dV w4 _ _).size) _ rfl ?_;intro g' cap w5 hown5 hgrow hat Au
          have jq:=ae hown5
          have sW:Hid (w4.grownBy w5 v3.ownBlock):=ae ((World.grownBy_alloc _ _ _).trans hgrow)
          have jP:Hid ((Value.slice (some ⟨g',0,none⟩) (cs.length+1) cap).ownBlock=v3.ownBlock∨∃ n,(Value.slice (some ⟨g',0,none⟩) (cs.length+1) cap).ownBlock=some n∧w4.heap.size≤n):=ae (hat.imp (fun h=>h.symm) fun h=>⟨g',rfl,by rw[h];exact (dV w4 _ _).size⟩)
          have NT:=ae ((sW.o.block w2.heap.size (aK hs3 Xj.o.size) (fun e=>hv3.o e.symm)).trans Xj.o.box)
          obtain⟨d0,d1,d2,d3,d4,d5,d6,d7,f0,f1,f2,f3,f4,f5,f6,f7⟩:=dO NT.o
          clear hown5 hgrow hat)
       | (go_simp;go_at_call 57;refine (HN.o).mono ?_;rintro e w4 ⟨rfl,hod,hr4⟩
          have mP:=ae hod.Am
          have Xj:=ae (Qd.o.G9 mP.o hr4 rC hs3)
          have g3:w4.cell? ⟨w2.heap.size,3,none⟩=some v3:=(dO Xj.o.box).c3
          have Ua:(w4.alloc (.cells #[.string ys] 9)).cell? ⟨w2.heap.size,3,none⟩=some v3:=(World.cell?_alloc_some _ _ _ (by rw[g3];rfl)).trans g3
          clear hod hr4))
      all_goals
       go_wp2_with fail
       go_meet
       case rel=>exact⟨rfl,XH HC.o hnx2.o mP.o Xj.o sW.o jq.o jP.o rC hs3 (aF _)⟩
     case rest =>
      obtain⟨rfl,v5,hCS,hq,hn2,hn3⟩:=hcut
      have HC5:=ae hCS
      simp only[T.k,T.s,T.n,T.kids,T.at_] at hq hk2
      rw[hk2] at hq
      obtain⟨_,_,_,_,_,_,_,_,_,_,z0,z1,z2,z3,z4,_,_⟩:=HF.o wc hCS.only
      have Jb:=GU z A4 c4 g (jl (.mk yk ys yn yl ya) stj) wc.drew hCS.rd hc4 ((HF.o wc.drew hCS.only.drew).kz.more (aS hg3 hCS.size))
      have g0':=(dO hCS.box).c2
      have hv2:Hid (v2.ownBlock≠some w2.heap.size):=ae (sZ HC5.o.uF hs3)
      have hz2:=ae (fun k (e:v2.ownBlock=some k)=>(HC5.o.uF.lt k e).2)
      have hz3:=ae (fun k (e:v5.ownBlock=some k)=>(HC5.o.rY.lt k e).2)
      obtain⟨⟨n0,n1,n2,n3,n4⟩,_,_,_,_,_⟩:=dN hq
      have hre:Hid (ps.length=j):=hPL
      generalize hE:(dX z).1=re at *
      generalize hX:qo z (jl (.mk yk ys yn yl ya) stj)=st5 at *
      have HE:=ae hE
      have HX:=ae hX
      clear hCS hq hE hX hn2 hn3
      obtain⟨ek,es,en,el⟩:=re
      obtain⟨zk,zs,zn,zl,za⟩:=z
      simp only[E.val,E.k,E.s,E.n,E.kids,T.val,T.k,T.s,T.n,T.kids,T.at_] at Jb z0 z1 z2 z3 z4
      have Jc:=ae Jb
      clear Jb
      generalize zl.length=zm at *
      go_upto_region 17 with (fail)
      go_region_law (first
       | (refine step_append_lies _ rfl _ _ _ rfl w3.heap.size 38 iE _ 4 56 Tryz.underlying22 iE1 iE2 iE3 iE4 rfl (by decide) _ _ _ rfl (AU.o.uF.alloc _) ⟨w6.heap.size,0,none⟩ 1 1 (EP.cs ((.mk ek es en el:E),A6,c6)) rfl rfl (bz (aH w6 _)) (by rw[←nR];exact xE _) (by decide) (oq hre.o Nv) (lX hre.o Nv (by decide)) (aS AU.o.size (dV w6 _ _).size) _ rfl ?_;intro g' cap w7 jo hgrow hat Gg
          have Gh:=ae jo
          have xu:Hid (w6.grownBy w7 v2.ownBlock):=ae ((World.grownBy_alloc _ _ _).trans hgrow)
          have tX:Hid ((Value.slice (some ⟨g',0,none⟩) (ps.length+1) cap).ownBlock=v2.ownBlock∨∃ n,(Value.slice (some ⟨g',0,none⟩) (ps.length+1) cap).ownBlock=some n∧w6.heap.size≤n):=ae (hat.imp (fun h=>h.symm) fun h=>⟨g',rfl,by rw[h];exact (dV w6 _ _).size⟩)
          have FP:=ae ((xu.o.block w2.heap.size (aK hs3 AU.o.size) (fun e=>hv2.o e.symm)).trans AU.o.box)
          obtain⟨d0,d1,d2,d3,d4,d5,d6,d7,f0,f1,f2,f3,f4,f5,f6,f7⟩:=dO FP.o
          clear jo hgrow hat)
       | (go_simp;go_at_call 58;refine (Jc.o).mono ?_;rintro e w6 ⟨⟨A6,c6,rfl,Eh⟩,hod,qK⟩
          have Gi:=ae Eh
          have qR:=ae hod.Am
          have AU:=ae (HC5.o.G9 qR.o qK rC hs3)
          have g3:w6.cell? ⟨w2.heap.size,2,none⟩=some v2:=(dO AU.o.box).c2
          have Ua:(w6.alloc (.cells #[.int .i64 ek,.string es,.int .i64 en,.slice A6 el.length c6] 38)).cell? ⟨w2.heap.size,2,none⟩=some v2:=(World.cell?_alloc_some _ _ _ (by rw[g3];rfl)).trans g3
          clear hod qK Eh))
      all_goals
       go_wp2_with fail
       go_roundw
       case measure=>exact Dc hlt2
       case rel=>exact Rf (A:=A6) (c:=c6) hxm.o HK.o uK.o (by rw[Rl.o,HST.o,HX.o,HE.o];exact AU.o.step2 xu.o Gh.o tX.o Gi.o HC5.o.size hz2.o hz3.o rC hs3 (aF _))
    ·have HMD:=ae (aar Ei.o hj hlt2 uK.o HC.o hbp.o hbr.o hkl Np hs3)
     go_wp2_with fail
     go_meet
     case rel=>exact HMD.o
  ·obtain⟨x,hx⟩:∃ x,l[1]?=some x:=⟨_,aO (by omega)⟩
   obtain⟨y,hy⟩:∃ y,l[2]?=some y:=⟨_,aO (by omega)⟩
   have AY:g≤w2.heap.size:=by omega
   obtain⟨bx,ox,A1,c1,ex,hgx,x0,x1,x2,x3,x4,hcx,hKx⟩:=xQ.o.at AY hx
   obtain⟨by',oy,A2,c2,ey,hgy,y0,y1,y2,y3,y4,hcy,hKy⟩:=xQ.o.at AY hy
   obtain⟨rfl,rfl⟩:bx=by'∧ox=oy:=by rw[ex] at ey;injection ey with ey;injection ey with e1 e2;exact⟨e1,e2⟩
   subst ex
   clear ey
   rw[Nat.one_mul] at x3
   have hsx:=(Vb.o x (aN hx)).len
   have hsy:=(Vb.o y (aN hy)).len
   have j3:w2.cell? ⟨w.heap.size,3,none⟩=some (.slice (some ⟨bx,ox,none⟩) ln c):=(dN iI.o).1.2.2.2.1
   have rC:g<w2.heap.size:=by omega
   have q1:w.heap.size<w2.heap.size:=by omega
   have q2:w.heap.size≠g:=by omega
   have q3:bx<w2.heap.size:=by omega
   have q4:bx≠g:=by omega
   have hx6:=hsx
   have hy6:=hsy
   have Uw:=ae (fun wx hx hA=>xJ x.kids hsx A1 c1 g st wx hx hA)
   have Jc:=ae (fun wx st' hx hA=>xJ y.kids hsy A2 c2 g st' wx hx hA)
   have HKX:=ae hKx
   have HKY:=ae hKy
   have hbp:Hid (eU 4 l=.mk 4 ⟨#[]⟩ [] [] (x.kids.map T.s) (y.kids.map T.s) [] []):=ae (by unfold eU;rw[if_neg (by decide),if_neg (by decide),if_neg (by decide),if_pos rfl,getD_some hx,getD_some hy])
   have hbr:Hid (iR 4 l a st=jc y.kids (jc x.kids st)):=ae (by unfold iR;rw[if_neg (by decide),if_neg (by decide),if_neg (by decide),if_pos rfl,getD_some hx,getD_some hy])
   have hm1:1<ln:=by rw[kC.o];omega
   have hm2:(1:Int)<(ln:Int):=by omega
   have NI:(2:Int)<(ln:Int):=by have:=kC.o;omega
   have hm4:2<ln:=by omega
   have hkl:dY 4≤l.length:=by rw[show dY 4=2 from rfl];omega
   have HP2:Hid (∀ wx,Only g w2 wx→wx.cell? ⟨w.heap.size,3,none⟩=some (.slice (some ⟨bx,ox,none⟩) ln c)∧wx.cell? ⟨bx,ox+5+3,none⟩=some (.slice A1 x.kids.length c1)∧wx.cell? ⟨bx,ox+2*5+3,none⟩=some (.slice A2 y.kids.length c2)) :=
    ae fun wx h=>⟨(h.cell (p:=⟨w.heap.size,3,none⟩) q1 q2).trans j3,(h.cell (p:=⟨bx,ox+5+3,none⟩) q3 q4).trans x3,(h.cell (p:=⟨bx,ox+2*5+3,none⟩) q3 q4).trans y3⟩
   clear hx hy hcx hcy hKx hKy x0 x1 x2 x3 x4 y0 y1 y2 y3 y4 j3 h2
   generalize hxl:x.kids.length=xm at *
   generalize hyl:y.kids.length=ym at *
   have DV:=ae hxl
   have HYL:=ae hyl
   clear hxl hyl
   go_upto_region 20 with (fail)
   refine wp_region_held_drew (S:=fun w'=>Only g w2 w') (by kernel_rfl) (zB.o.drew) (fun hHeld=>?_)
   refine aC (i:=0) (v:=.pointer (some ⟨g,0,none⟩)) rfl (by kernel_rfl) aA (bD ⟨by rfl,fun _ _=>by go_simp⟩) ‹_› ?_
   simp only[ah,ai,Act.put,au,ay,az]
   refine aC (i:=1) (v:=.pointer (some ⟨w.heap.size,3,none⟩)) rfl (by kernel_rfl) aA (bD ⟨by rfl,fun _ _=>by go_simp⟩) ‹_› ?_
   simp only[ah,aj,ai,Act.put,au,ay,az]
   refine aC (i:=2) (v:=.slice (some ⟨bx,ox,none⟩) ln c) rfl (by kernel_rfl) aA (bD ⟨by rfl,fun w1' hSw=>by (obtain⟨r1,r2,r3⟩:=HP2.o _ hSw;go_simp)⟩) ‹_› ?_
   simp only[ah,aj,ai,Act.put,au,ay,az]
   refine aC (i:=3) (v:=.pointer (some ⟨bx,ox+5,none⟩)) rfl (by kernel_rfl) aA (bD ⟨by rfl,fun _ _=>by go_simp⟩) ‹_› ?_
   simp only[ah,aj,ai,Act.put,au,ay,az]
   refine aC (i:=4) (v:=.pointer (some ⟨bx,ox+5+3,none⟩)) rfl (by kernel_rfl) aA (bD ⟨by rfl,fun _ _=>by go_simp⟩) ‹_› ?_
   simp only[ah,aj,ai,Act.put,au,ay,az]
   refine aC (i:=5) (v:=.slice A1 xm c1) rfl (by kernel_rfl) aA (bD ⟨by rfl,fun w1' hSw=>by (obtain⟨r1,r2,r3⟩:=HP2.o _ hSw;go_simp)⟩) ‹_› ?_
   simp only[ah,aj,ai,Act.put,au,ay,az]
   refine aC (i:=7) (v:=.pointer (some ⟨g,0,none⟩)) rfl (by kernel_rfl) aA (bD ⟨by rfl,fun _ _=>by go_simp⟩) ‹_› ?_
   simp only[ah,aj,ai,Act.put,au,ay,az]
   refine aC (i:=8) (v:=.pointer (some ⟨w.heap.size,3,none⟩)) rfl (by kernel_rfl) aA (bD ⟨by rfl,fun _ _=>by go_simp⟩) ‹_› ?_
   simp only[ah,aj,ai,Act.put,au,ay,az]
   refine aC (i:=9) (v:=.slice (some ⟨bx,ox,none⟩) ln c) rfl (by kernel_rfl) aA (bD ⟨by rfl,fun w1' hSw=>by (obtain⟨r1,r2,r3⟩:=HP2.o _ hSw;go_simp)⟩) ‹_› ?_
   simp only[ah,aj,ai,Act.put,au,ay,az]
   refine aC (i:=10) (v:=.pointer (some ⟨bx,ox+2*5,none⟩)) rfl (by kernel_rfl) aA (bD ⟨by rfl,fun _ _=>by go_simp⟩) ‹_› ?_
   simp only[ah,aj,ai,Act.put,au,ay,az]
   refine aC (i:=11) (v:=.pointer (some ⟨bx,ox+2*5+3,none⟩)) rfl (by kernel_rfl) aA (bD ⟨by rfl,fun _ _=>by go_simp⟩) ‹_› ?_
   simp only[ah,aj,ai,Act.put,au,ay,az]
   refine aC (i:=12) (v:=.slice A2 ym c2) rfl (by kernel_rfl) aA (bD ⟨by rfl,fun w1' hSw=>by (obtain⟨r1,r2,r3⟩:=HP2.o _ hSw;go_simp)⟩) ‹_› ?_
   simp only[ah,aj,ai,Act.put,au,ay,az]
   refine wpAnyH_ready (rs:=[6]) (by kernel_rfl) (by simp) ?_
   refine AllReadyH.cons rfl (fun K hK=>?_) AllReadyH.nil
   simp only[ah,aj,ai]
   go_simp
   refine (Uw.o w3.drew HR3.o (HKX.o.low (zB.o.drew.below (B:=g) AY (aF _)))).mono ?_
   rintro e w4 ⟨⟨A4,c4,rfl,hc4,hL4⟩,hd4,hr4⟩
   go_wp2_with fail
   have vJ:=hd4.Am
   have hs4:=zB.o.trans vJ
   refine hK.o _ _ hs4 (fun hHeld=>?_)
   clear hK K hd4
   refine aC (i:=14) (v:=.pointer (some ⟨w2.heap.size,4,none⟩)) rfl (by kernel_rfl) aA (bD ⟨by rfl,fun _ _=>by go_simp⟩) ‹_› ?_
   simp only[ah,aj,ai,Act.put,au,ay,az]
   refine wpAnyH_ready (rs:=[13]) (by kernel_rfl) (by simp) ?_
   refine AllReadyH.cons rfl (fun K hK=>?_) AllReadyH.nil
   simp only[ah,aj,ai]
   go_simp
   refine (Jc.o w4 _ hr4 (HKY.o.low (hs4.below (B:=g) AY (aF _)))).mono ?_
   rintro e w5 ⟨⟨A5,c5,rfl,hc5,hL5⟩,iJ,oI⟩
   go_wp2_with fail
   have hs5:=hs4.trans iJ
   refine hK.o _ _ hs5 (fun hHeld=>?_)
   clear hK K
   have z4:=vJ.size
   have z5:=iJ.size
   have hp5:=(iJ.block w2.heap.size (by omega) (by omega)).trans ((vJ.block w2.heap.size (by omega) (by omega)).trans Gj.o)
   obtain⟨d0,d1,d2,d3,d4,d5,d6,d7,f0,f1,f2,f3,f4,f5,f6,f7⟩:=dO hp5
   refine wpAnyH_ready (rs:=[15]) (by kernel_rfl) (by simp) ?_
   refine AllReadyH.cons rfl (fun K hK=>?_) AllReadyH.nil
   simp only[ah,aj,ai]
   go_simp
   have hs6:=hs5.dQ (p:=⟨w2.heap.size,4,none⟩) (aF _) (.slice A4 xm c4)
   refine hK.o _ _ hs6 (fun hHeld=>?_)
   clear hK K d0 d1 d2 d3 d4 d5 d6 d7 f0 f1 f2 f3 f4 f5 f6 f7
   have hp6:=jm (k:=4) (u:=.slice A4 xm c4) hp5
   obtain⟨d0,d1,d2,d3,d4,d5,d6,d7,f0,f1,f2,f3,f4,f5,f6,f7⟩:=dO hp6
   refine aC (i:=16) (v:=.pointer (some ⟨w2.heap.size,5,none⟩)) rfl (by kernel_rfl) aA (bD ⟨by rfl,fun _ _=>by go_simp⟩) ‹_› ?_
   simp only[ah,aj,ai,Act.put,au,ay,az]
   refine wpAnyH_ready (rs:=[17]) (by kernel_rfl) (by simp) ?_
   refine AllReadyH.cons rfl (fun K hK=>?_) AllReadyH.nil
   simp only[ah,aj,ai]
   go_simp
   have hs7:=hs6.dQ (p:=⟨w2.heap.size,5,none⟩) (aF _) (.slice A5 ym c5)
   refine hK.o _ _ hs7 (fun hHeld=>?_)
   clear hK K d0 d1 d2 d3 d4 d5 d6 d7 f0 f1 f2 f3 f4 f5 f6 f7
   have ZM:=jm (k:=5) (u:=.slice A5 ym c5) hp6
   refine wpAnyH_done (by kernel_rfl) ?_ _
   have HP7:=ae ZM
   have HS7:=ae hs7
   have P6:=ae hL4
   have Ud:=ae hL5
   have mP:=ae vJ
   have jq:=ae iJ
   have wU:=ae oI
   clear ZM hs7 hs6 hs5 hs4 hp5 hp6 hL4 hL5 vJ iJ hr4 oI hHeld
   go_wp2_with fail
   go_meet
   case rel=>exact Va P6.o Ud.o mP.o jq.o wU.o HS7.o HP7.o hs3 hkl DV.o HYL.o (by first|exact hc4|(rw[←DV.o];exact hc4)) (by first|exact hc5|(rw[←HYL.o];exact hc5)) rC (by rw[DV.o];exact hx6) (by rw[HYL.o];exact hy6) hbp.o hbr.o
  ·obtain⟨d0,d1,d2,d3,d4,d5,d6,d7,f0,f1,f2,f3,f4,f5,f6,f7⟩:=dO Gj.o
   go_wp2_with fail
   go_meet
   case rel=>exact⟨ru,rfl,.inr rfl,by rw[show dY 5=2 from rfl];omega,Gj.o,kJ _ _ _ _,zB.o,HR3.o⟩
  ·obtain⟨d0,d1,d2,d3,d4,d5,d6,d7,f0,f1,f2,f3,f4,f5,f6,f7⟩:=dO Gj.o
   go_wp2_with fail
   go_meet
   case rel=>exact⟨ru,rfl,.inl rfl,by rw[show dY 6=1 from rfl];omega,Gj.o,kJ _ _ _ _,zB.o,HR3.o⟩
  ·have rC:g<w2.heap.size:=aK hlt (aS (bV (Nat.lt_of_succ_lt hs1)) hs2)
   obtain⟨m,e1,y0,x,hy0,hx,hmid,q1,q2,q3,q4,q5,q6,q7,q8,q9,q10,Np,hkl,hg3,hg3',hl1,hl2⟩:=UB kC.o h2 hc Aw rC hs3
   obtain⟨b,o,A1,c1,e9,hgb,x0,x1,x2,x3,x4,hcx,hKx⟩:=RF.o.at hg3 hx
   subst e9
   rw[Nat.one_mul] at x3
   have hml:=CX hmid
   have Ei:=ae hml
   have Ov:=ae (fun j (hj:j<m)=>CY hmid hj)
   have Uc:=ae (fun j (hj:j<m)=>IW hmid hj)
   have hsx:=(Vb.o x (aN hx)).len
   have hbp:Hid (eU 7 l=.mk 7 ⟨#[]⟩ [] [] (x.kids.map T.s) [] ((fV l 2).map qE) []):=ae (by unfold eU;rw[if_neg (by decide),if_neg (by decide),if_neg (by decide),if_neg (by decide),if_pos rfl,getD_some hx];rfl)
   have hbr:Hid (iR 7 l a st=oW (fV l 2) (jc x.kids st)):=ae (by unfold iR;rw[if_neg (by decide),if_neg (by decide),if_neg (by decide),if_neg (by decide),if_neg (by decide),if_neg (by decide),if_pos rfl,getD_some hx])
   have C9:=ae (List.all_eq_true.1 h3)
   have AY:g≤w2.heap.size:=bV rC
   have HN:=ae (xJ x.kids hsx A1 c1 g st w3 HR3.o hKx)
   generalize hmd:fV l 2=mid at *
   clear hy0 h2 h3 hml hmid hmd x0 x1 x2 x4 hcx hKx hx
   generalize hst1:jc x.kids st=st1 at *
   have adT:=ae hst1
   generalize hxs:x.kids=xs at *
   generalize hxm:xs.length=xm at *
   have ZG:=ae hxm
   clear hst1 hxs hxm
   obtain⟨iG,iG1,iG2,iG3,iG4⟩:=info_parts J9
   obtain⟨d0,d1,d2,d3,d4,d5,d6,d7,f0,f1,f2,f3,f4,f5,f6,f7⟩:=dO Gj.o
   go_wp2_with fail
   refine (HN.o).mono ?_
   rintro e w4 ⟨⟨A5,c5,rfl,hc5,hL5⟩,vJ,hr4⟩
   have mP:=ae vJ
   have HR4:=ae hr4
   have Ud:=ae hL5
   have hs4:=vJ.size
   have zX:=ae ((vJ.block w2.heap.size hs3 (Nat.ne_of_gt rC)).trans Gj.o)
   have uz:=ae ((aI w4 ⟨w2.heap.size,4,none⟩ (.slice A5 xm c5) w.heap.size (by show w.heap.size≠w2.heap.size;exact Nat.ne_of_lt (aK (Nat.lt_of_succ_lt hs1) hs2))).trans ((vJ.block w.heap.size (Nat.lt_trans (aK (Nat.lt_of_succ_lt hs1) hs2) hs3) (Nat.ne_of_gt hlt)).trans nO.o))
   clear vJ hr4 hL5 d0 d1 d2 d3 d4 d5 d6 d7 f0 f1 f2 f3 f4 f5 f6 f7 k0 k1 k2 k3 k4 x3
   obtain⟨⟨k0,k1,k2,k3,k4⟩,_,_,_,_,_⟩:=dN uz.o
   obtain⟨d0,d1,d2,d3,d4,d5,d6,d7,f0,f1,f2,f3,f4,f5,f6,f7⟩:=dO zX.o
   go_wp2_with fail
   clear q1 q2 q3 q4 q5 q6 q7 q8 q9 q10 d0 d1 d2 d3 d4 d5 d6 d7 f0 f1 f2 f3 f4 f5 f6 f7
   have Vd:w2.heap.size<w4.heap.size:=aK hs3 hs4
   go_loopw [120] (fun i wr=>XF g w2.heap.size w2 w4.heap.size (.slice A5 xm c5) mid st1 (w4.setCell ⟨w2.heap.size,4,none⟩ (.slice A5 xm c5)) i wr) (fun i _=>m-(intOf i).toNat)
   case atStart=>exact NZ zX.o (zB.o.trans mP.o) HR4.o rC (aF _)
   case round =>
    obtain⟨j,v,hj,rfl,hC,hold⟩:=hrel
    rw[Ei.o] at hj
    have HC:=ae hC
    have HOLD:=ae hold
    clear hC hold
    by_cases hlt2:j<m
    ·obtain⟨x,hx⟩:=Uc.o j hlt2
     have hxm:=ae ((Ov.o j hlt2).trans hx)
     have hag:=ae (XI (C9.o x (aN hxm.o)))
     obtain⟨A2,c2,aaJ,m0,m1,m2,m3,m4,hcx,hKx⟩:=(xQ.o.low (HC.o.only.below (B:=g) AY (aF _))).at3 hx
     have hgl:=ae (NY (f:=qE) Ei.o hj)
     have hrs:=ae (DX hxm.o st1)
     obtain⟨wx,iK⟩:∃ wx,wx=wr.alloc (.cells #[.int .i64 x.k,.string x.s,.int .i64 x.n,.slice A2 x.kids.length c2,.int .i64 x.at_] 71):=⟨_,rfl⟩
     have hbx:Below wr.heap.size wr wx:=by rw[iK];exact (aG _ _).alloc (aF _) _
     have hnx:wx.heap[wr.heap.size]?=some (.cells #[.int .i64 x.k,.string x.s,.int .i64 x.n,.slice A2 x.kids.length c2,.int .i64 x.at_] 71 (0,0)):=by rw[iK];exact aH wr _
     have Qd:=ae (HC.o.G9 (dU hbx) (HC.o.rd.kept hbx) rC Vd)
     have lG:=ae (Uu x A2 c2 g (oW (mid.take j) st1) wx.drew Qd.o.rd (hKx.low (hbx.drew.mono (aS AY HC.o.only.size))) hag.o)
     have ni:=ae iK
     have xO:=ae hbx
     have HDX:=ae (dO Qd.o.box).c6
     have g0:=HDX.o
     have hv6:Hid (v.ownBlock≠some w2.heap.size):=ae (sZ HC.o.own Vd)
     obtain⟨⟨n0,n1,n2,n3,n4⟩,_,_,_,_,_⟩:=dN hnx
     have Nv:j≤600:=aS hj Np
     clear iK hbx hnx hx hKx hcx aaJ
     generalize hgs:(mid.take j).map qE=gs at *
     have HGS:=ae hgs
     clear hgs
     generalize hst:oW (mid.take j) st1=stj at *
     have HST:=ae hst
     clear hst
     generalize hax:qp x.kids=ax at *
     have HAX:=ae hax
     clear hax
     generalize CZ:rV x.kids stj=st5 at *
     have HSR:=ae CZ
     clear CZ
     obtain⟨xk,xs',xn,xl,xa⟩:=x
     obtain⟨an,af,ac⟩:=ax
     simp only[T.val,T.k,T.s,T.n,T.kids,T.at_] at m0 m1 m2 m3 m4 n0 n1 n2 n3 n4 lG ni
     generalize hxl:xl.length=xm2 at *
     clear hxl
     go_upto_region 30 with (fail)
     rw[←ni.o]
     go_region_law (first
      | (refine step_append_lies _ rfl _ _ _ rfl w4.heap.size 46 iG _ 3 48 Tryz.underlying24 iG1 iG2 iG3 iG4 rfl (by decide) _ _ _ rfl (AU.o.own.alloc _) ⟨w6.heap.size,0,none⟩ 1 1 (Ag.cs ⟨an,af,ac⟩) rfl rfl (bz (aH w6 _)) (by rw[←Ap];exact NV _) (by decide) (oq hgl.o Nv) (lX hgl.o Nv (by decide)) (aS AU.o.size (dV w6 _ _).size) _ rfl ?_;intro g' cap w7 jo hgrow hat Gg
         rw[hgl.o] at jo
         have Gh:=ae jo
         have xu:Hid (w6.grownBy w7 v.ownBlock):=ae ((World.grownBy_alloc _ _ _).trans hgrow)
         have tX:Hid ((Value.slice (some ⟨g',0,none⟩) (j+1) cap).ownBlock=v.ownBlock∨∃ n,(Value.slice (some ⟨g',0,none⟩) (j+1) cap).ownBlock=some n∧w6.heap.size≤n):=ae (hat.imp (fun h=>h.symm) fun h=>⟨g',rfl,by rw[h];exact (dV w6 _ _).size⟩)
         have FP:=ae ((xu.o.block w2.heap.size (aK Vd AU.o.size) (fun e=>hv6.o e.symm)).trans AU.o.box)
         obtain⟨d0,d1,d2,d3,d4,d5,d6,d7,f0,f1,f2,f3,f4,f5,f6,f7⟩:=dO FP.o
         have ahl:=hgl.o
         clear jo hgrow hat)
      | (go_simp;go_at_call 60;refine (lG.o).mono ?_;rintro e w6 ⟨rfl,hod,qK⟩
         have qR:=ae hod.Am
         have AU:=ae (Qd.o.G9 qR.o qK rC Vd)
         have g3:w6.cell? ⟨w2.heap.size,6,none⟩=some v:=(dO AU.o.box).c6
         have Ua:(w6.alloc (.cells #[.string an,.string af,.string ac] 46)).cell? ⟨w2.heap.size,6,none⟩=some v:=(World.cell?_alloc_some _ _ _ (by rw[g3];rfl)).trans g3
         clear hod qK))
     all_goals
      rw[ahl] at *
      go_wp2_with fail
      go_roundw
      case measure=>exact Dc hlt2
      case rel=>exact N7 HGS.o HST.o HAX.o HSR.o hxm.o HC.o HOLD.o ((dU xO.o).trans qR.o) AU.o xu.o Gh.o tX.o rC Vd (aF _)
    ·have HMD:=ae (aas Ei.o hj hlt2 (by rw[adT.o];exact HC.o) HOLD.o Ud.o ZG.o (by first|exact hc5|(rw[←ZG.o];exact hc5)) hsx hbp.o (by rw[adT.o];exact hbr.o) hkl Np hs3 hs4)
     go_wp2_with fail
     go_meet
     case rel=>exact HMD.o
 case rest =>
  obtain⟨a0,rfl,hkn,hkl,hbx,hparts,hoc,hrc⟩:=hcut
  clear hshape
  generalize hP0:eU kd l=p0 at *
  generalize hR0:iR kd l a st=st0 at *
  generalize hkk:dY kd=kn at *
  have hsc:=hoc.size
  have AY:g≤w2.heap.size:=by omega
  have rC:g<w2.heap.size:=by omega
  have adU:w.heap.size+1<w2.heap.size:=by omega
  have KW:w2.heap.size<wc.heap.size:=(aU.1 hbx).1
  have HXc:=ae ((hoc.block w.heap.size (by omega) (by omega)).trans iI.o)
  have HTc:=ae ((hoc.block (w.heap.size+1) (by omega) (by omega)).trans HT2.o)
  have HKc:=ae (xQ.o.low (hoc.below (B:=g) (by omega) (aF _)))
  have HOC:=ae hoc
  have HRC:=ae hrc
  have aaK:=ae hparts
  have jW:=ae hbx
  obtain⟨y,hy⟩:∃ y,l[0]?=some y:=⟨_,aO (by omega)⟩
  obtain⟨b,o,_,_,e9,hgb,_⟩:=HKc.o.at (by omega) hy
  subst e9
  have hkn2:kn≤ln:=by rw[kC.o];exact hkl
  have ahm:ln≤c:=by rw[kC.o];exact hc
  obtain⟨d,hsub,hdl,hdi,hd0,hwr,hdc,adV,hd⟩:=RV hkn2 hkn ahm (by rw[kC.o];exact Aw)
  have HD:=ae hd
  have aaL:=ae adV
  clear hd adV
  clear hoc hrc hparts hbx hy nO HT3 HR3 RF Gj Nj HW3 X3 zB hs3 Nu iI k0 k1 k2 k3 k4
  obtain⟨⟨k0,k1,k2,k3,k4⟩,_,_,_,_,_⟩:=dN HXc.o
  obtain⟨i0,hi,hz0,hz1,hz2⟩:=info_parts GY
  go_wp2_with fail
  rw[show ln-d=kn from lnd aaL.o,hwr]
  clear hwr hsub hdc hdi hd0
  go_loopw [140] (fun i wr=>adO g w2.heap.size w2 wc a0 p0 l d kn st0 i wr) (fun i _=>kn-(intOf i).toNat)
  case atStart =>
   refine⟨0,[],.slice none 0 0,st0,aX _,rfl,rfl,jW.o,⟨rfl,.inl ⟨rfl,rfl⟩⟩,(fun p hp=>by cases hp),HOC.o,fun _ _ _=>rfl,HRC.o,?_,aF _⟩
   simp
  case round =>
   obtain⟨j,ps,v,stj,hj,rfl,hpl,hbox,hown,hxk,ho,hold,hra,hz,CZ⟩:=hrel
   have adW:=ae hbox
   have HOWN:=ae hown
   have HXK:=ae hxk
   have HO:=ae ho
   have HOLD:=ae hold
   have ZC:=ae hra
   have HZ:=ae hz
   have lV:=ae hpl
   clear hbox hown hxk ho hold hra hz hpl
   have ahn:g≤wr.heap.size:=aS AY HO.o.size
   have adX:w2.heap.size<wr.heap.size:=aK KW CZ
   by_cases hlt2:j<kn
   ·obtain⟨x,hx⟩:∃ x,l[d+j]?=some x:=⟨_,aO (aaI kC.o aaL.o hlt2)⟩
    obtain⟨A2,c2,aaJ,m0,m1,m2,m3,m4,hcx,hKx⟩:=(xQ.o.low (HO.o.below (B:=g) AY (aF _))).at3 hx
    obtain⟨wx,iK⟩:∃ wx,wx=wr.alloc (.cells #[.int .i64 x.k,.string x.s,.int .i64 x.n,.slice A2 x.kids.length c2,.int .i64 x.at_] 71):=⟨_,rfl⟩
    have hbx:Below wr.heap.size wr wx:=by rw[iK];exact (aG _ _).alloc (aF _) _
    have hsx:wx.heap.size=wr.heap.size+1:=by rw[iK];simp
    have hnx:wx.heap[wr.heap.size]?=some (.cells #[.int .i64 x.k,.string x.s,.int .i64 x.n,.slice A2 x.kids.length c2,.int .i64 x.at_] 71 (0,0)):=by rw[iK];exact aH wr _
    have lG:=ae (HM.o x (aN hx) (Vb.o x (aN hx)) A2 c2 g stj wx.drew (ZC.o.kept hbx.drew) hcx (hKx.low (hbx.drew.mono ahn)))
    have hst:=ae (NK hx stj)
    have ni:=ae iK
    have xO:=ae hbx
    have HSX:=ae hsx
    have ZN:=ae ((hbx.block w2.heap.size adX).trans adW.o)
    obtain⟨⟨n0,n1,n2,n3,n4⟩,_,_,_,_,_⟩:=dN hnx
    obtain⟨d0,d1,d2,d3,d4,d5,d6,d7,f0,f1,f2,f3,f4,f5,f6,f7⟩:=dO ZN.o
    generalize hq:fU x stj=q at *
    clear iK hbx hnx hsx hx hKx hcx hq aaJ
    obtain⟨xk,xs,xn,xl,xa⟩:=x
    simp only[T.val,T.k,T.s,T.n,T.kids,T.at_] at m0 m1 m2 m3 m4 lG ni n0 n1 n2 n3 n4
    generalize xl.length=xm at *
    have aho:w2.heap.size<wx.heap.size:=aK adX xO.o.size
    have ahp:w2.heap.size≠g:=Nat.ne_of_gt rC
    have ahq:g<wc.heap.size:=Nat.lt_of_le_of_lt AY KW
    have Nv:j≤600:=ag7 hlt2 hkn
    have HVT:Hid (v.ownBlock≠some w2.heap.size):=ae (fun e=>by have:=(HOWN.o.lt _ e).1;omega)
    go_upto_region 35 with (fail)
    rw[←ni.o]
    go_region_law (first
     | (refine step_append_lies _ rfl _ _ _ rfl wc.heap.size 27 i0 _ 8 168 Tryz.underlying25 hi hz0 hz1 hz2 rfl (by decide) _ _ _ rfl (Nj.o.alloc _) ⟨w3.heap.size,0,none⟩ 1 1 (QP.cs (q.1,aq)) rfl rfl (bz (aH w3 _)) (by rw[←Aq];exact NQ _) (by decide) (Qq Nv) (KX Nv) (aS hcw3 (dV w3 _ _).size) _ rfl ?_;intro g' cap w5 hown5 hgrow hat Au
        have jq:=ae hown5
        have sW:Hid (w3.grownBy w5 v.ownBlock):=ae ((World.grownBy_alloc _ _ _).trans hgrow)
        have jP:Hid ((Value.slice (some ⟨g',0,none⟩) (j+1) cap).ownBlock=v.ownBlock∨∃ n,(Value.slice (some ⟨g',0,none⟩) (j+1) cap).ownBlock=some n∧w3.heap.size≤n):=ae (hat.imp (fun h=>h.symm) fun h=>⟨g',rfl,by rw[h];simp⟩)
        have NT:=ae ((sW.o.block w2.heap.size ahr (fun e=>HVT.o e.symm)).trans Ky.o)
        obtain⟨d0,d1,d2,d3,d4,d5,d6,d7,f0,f1,f2,f3,f4,f5,f6,f7⟩:=dO NT.o
        clear hown5 hgrow hat)
     | (go_simp;go_at_call 30;refine (lG.o).mono ?_;rintro e w3 ⟨⟨aq,rfl,hX⟩,hod,hr3⟩
        simp only[P.val]
        have nO:=ae hX
        have zB:=ae hod.Am
        have HR3:=ae hr3
        have Nj:=ae (uX (own_below HOWN.o xO.o) zB.o ahq)
        have hcw3:wc.heap.size≤w3.heap.size:=aS (aS CZ xO.o.size) zB.o.size
        have ahr:w2.heap.size<w3.heap.size:=aK KW hcw3
        have Ky:=ae ((zB.o.block w2.heap.size aho ahp).trans ZN.o)
        have g3:w3.cell? ⟨w2.heap.size,7,none⟩=some v:=(dO Ky.o).c7
        have Ua:(w3.alloc (.cells #[.int .i64 q.1.k,.string q.1.nm,.slice aq.ea q.1.ex.length aq.ec,.slice aq.ca q.1.cols.length aq.cc,.slice aq.la q.1.left.length aq.lc,.slice aq.ra q.1.right.length aq.rc,.slice aq.ga q.1.ag.length aq.gc,.slice aq.ka q.1.kids.length aq.kc] 27)).cell? ⟨w2.heap.size,7,none⟩=some v:=(World.cell?_alloc_some _ _ _ (by rw[g3];rfl)).trans g3
        clear hX hod hr3))
    all_goals
     go_wp2_with fail
     go_roundw
     case measure=>exact Dc hlt2
     case rel=>exact RX hlt2 lV.o KW rC (aF _) HOWN.o HXK.o HO.o HOLD.o CZ HZ.o hst.o xO.o zB.o HR3.o nO.o sW.o jq.o jP.o NT.o
   ·have hke:=ae (U8 kC.o aaL.o HD.o hj hlt2 HZ.o)
    have hO:wr.ownsRow wc.heap.size 27 8 v ps.length (nI ps):=by rw[lV.o];exact HOWN.o
    obtain⟨A9,c9,rfl,IV,yu⟩:=GX hO (by rw[lV.o];exact adP (aS hj (aF _)) hkn) (S:=fun k=>wc.heap.size≤k∧k<wr.heap.size) (fun g u1 u2=>⟨u1,u2⟩) (fun p hp=>(HXK.o p hp).mono fun k hk=>⟨hk.1,hk.2.1⟩)
    have GI:=ae yu
    have HTr:=ae ((HO.o.block (w.heap.size+1) adU (Nat.ne_of_gt (Nat.lt_succ_of_lt hlt))).trans HT2.o)
    obtain⟨d0,d1,d2,d3,d4,d5,d6,d7,f0,f1,f2,f3,f4,f5,f6,f7⟩:=dO adW.o
    obtain⟨t0,t1,t2,t3,t4,t5,t6,t7,g0,g1,g2,g3,g4,g5,g6,g7⟩:=dO HTr.o
    clear hO yu
    go_wp2_with fail
    refine aJ (pz rfl rfl (gV HTr.o)) rfl ?_
    rw[hke.o]
    exact U9 (c9:=c9) hlt adU (aF _) KW CZ ((dU HB1.o).bel HB2.o) HO.o HOLD.o aaK.o ZC.o GI.o (by rw[Qp,bM])
theorem Ve:∀ t,Ot t:=T.ind RY
mutual
def iC:T→Nat|.mk k s _ l _=>(if k=2 then s.size else s.size+1)+iD l
def iD:List T→Nat|[]=>0|x::l=>iC x+iD l
end
theorem lI (a b:List T):iD (a++b)=iD a+iD b:=by
 induction a with
 | nil=>simp[iD]
 | cons x a ih=>rw[List.cons_append,iD,iD,ih,Nat.add_assoc]
theorem I7 (a b:List T):qV (a++b)=max (qV a) (qV b):=by
 induction a with
 | nil=>simp[qV]
 | cons x a ih=>rw[List.cons_append,qV,qV,ih,Nat.max_assoc]
theorem Rx (t:T):qV [t]=vH t:=by rw[qV,qV];omega
theorem pU (t:T):iD [t]=iC t:=by rw[iD,iD];omega
def aaB (j:Nat)(t:T):Prop:=t.k=1∧t.s=⟨#[]⟩∧t.n=0∧(∀ e∈t.kids,Hr e)∧qV t.kids+(j+1)≤12
structure KI (op dn:List T)(c:Nat):Prop where
 o_:∀ j t,op[j]?=some t→aaB j t
 d_:∀ t∈dn,Hr t∧vH t≤12
 cost:iD op+iD dn≤c
theorem aaB.ok {j:Nat} {t:T} (h:aaB j t):Hr t∧vH t+j≤12:=by
 obtain⟨k,s,n,l,a⟩:=t
 obtain⟨h1,h2,h3,h4,h5⟩:=h
 simp only[T.k,T.s,T.n,T.kids] at h1 h2 h3 h4 h5
 subst h1 h2 h3
 refine⟨.node l a h4,?_⟩
 rw[vH,if_pos rfl]
 omega
theorem KI.add {op dn:List T} {c:Nat} {t:T} (h:KI op dn c)(ht:Hr t)(hd:vH t+op.length≤12):KI (sS op dn t).1 (sS op dn t).2 (c+iC t):=by
 rcases Nat.eq_zero_or_pos op.length with h0|hpos
 ·have e0:op=[]:=bF h0
  subst e0
  have e:sS [] dn t=([],dn++[t]):=rfl
  rw[e]
  refine⟨fun j t h=>by simp at h,fun x hx=>?_,?_⟩
  ·rcases cu.1 hx with hx|hx
   ·exact h.d_ x hx
   ·rw[df.1 hx]
    exact⟨ht,by simpa using hd⟩
  ·have:=h.cost
   show iD []+iD (dn++[t])≤_
   rw[lI,pU]
   omega
 ·obtain⟨p,hp⟩:∃ p,op[op.length-1]?=some p:=⟨_,aO (by omega)⟩
  have e:sS op dn t=(op.set (op.length-1) (p.kid t),dn):=by
   unfold sS
   rw[hp]
  rw[e]
  have hpo:=h.o_ _ _ hp
  have hsplit:op=op.take (op.length-1)++[p]:=by
   have h1:=List.take_add_one (l:=op) (i:=op.length-1)
   rw[hp,Nat.sub_add_cancel hpos,List.take_length] at h1
   exact h1
  have hset:op.set (op.length-1) (p.kid t)=op.take (op.length-1)++[p.kid t]:=by
   conv=>lhs;rw[hsplit]
   rw[List.set_append_right _ _ (by simp)]
   simp
  have hck:iC (p.kid t)=iC p+iC t:=by
   obtain⟨k,s,n,l,a⟩:=p
   show iC (.mk k s n (l++[t]) a)=_
   rw[iC,iC,lI,pU]
   omega
  refine⟨fun j x hx=>?_,h.d_,?_⟩
  ·rcases Nat.lt_or_ge j (op.length-1) with hj|hj
   ·rw[List.getElem?_set_ne (by omega)] at hx
    exact h.o_ j x hx
   ·have hj2:j<op.length:=by have:=(aV.1 hx).1;simpa using this
    obtain rfl:j=op.length-1:=by omega
    rw[List.getElem?_set_self (by omega)] at hx
    obtain rfl:p.kid t=x:=by simpa using hx
    obtain⟨h1,h2,h3,h4,h5⟩:=hpo
    refine⟨h1,h2,h3,fun e he=>?_,?_⟩
    ·rcases cu.1 (show e∈p.kids++[t] from he) with he|he
     ·exact h4 e he
     ·rw[df.1 he];exact ht
    ·show qV (p.kids++[t])+_≤12
     rw[I7,Rx]
     omega
  ·have h1:=h.cost
   rw[hsplit,lI,pU] at h1
   show iD (op.set _ _)+iD dn≤_
   rw[hset,lI,pU,hck]
   omega
theorem KJ {p:UInt8→Bool} {s:ByteArray}:∀ (n i:Nat),s.size-i=n→∀ j,i≤j→j<kP p s i→p (bt s j)=true
 | n,i,hn,j,h1,h2=>by
   by_cases h:i<s.size
   ·cases hp:p (bt s i)
    ·rw[wI hp] at h2;omega
    ·rw[rU h hp] at h2
     rcases Nat.eq_or_lt_of_le h1 with rfl|h3
     ·exact hp
     ·obtain⟨m,rfl⟩:∃ m,n=m+1:=⟨n-1,by omega⟩
      exact KJ m (i+1) (by omega) j h3 h2
   ·rw[yG h] at h2;omega
theorem KL {s:ByteArray} {i j:Nat} (hj:j≤s.size) {c:UInt8} (h:c∈(s.extract i j).data.toList):∃ k,i≤k∧k<j∧c=bt s k:=by
 obtain⟨m,hm,e⟩:=List.mem_iff_getElem.1 h
 have hsz:m<j-i:=by
  have:(s.extract i j).data.toList.length=min j s.size-i:=by simp[ByteArray.data_extract];omega
  omega
 refine⟨i+m,by omega,by omega,?_⟩
 rw[uw (by omega),←e]
 simp[ByteArray.data_extract]
 rfl
theorem Ry (s:ByteArray)(p:Nat):∀ (n i:Nat)(l:List UInt8),s.size-i=n→(jD s p i l).2.2.1=0→(jD s p i l).1.length+i+1≤l.length+(jD s p i l).2.1:=by
 intro n
 induction n using Nat.strongRecOn with
 | _ n ih =>
   intro i l hn h0
   by_cases h:i<s.size
   ·by_cases uJ:((bt s i).toNat:Int)=34
    ·rw[uQ h uJ] at h0 ⊢
     split
     ·rename_i h'
      rw[if_pos h'] at h0
      simp at h0
     ·simp only;omega
    ·by_cases FZ:((bt s i).toNat:Int)=92
     ·rw[wK h FZ] at h0 ⊢
      by_cases h1:i+1<s.size
      ·rw[if_pos h1] at h0 ⊢
       by_cases h2:mg (bt s (i+1))<0
       ·rw[if_pos h2] at h0;simp at h0
       ·rw[if_neg h2] at h0 ⊢
        by_cases h3:i+2<s.size
        ·rw[if_pos h3] at h0 ⊢
         by_cases h4:mg (bt s (i+2))<0
         ·rw[if_pos h4] at h0;simp at h0
         ·rw[if_neg h4] at h0 ⊢
          have:=ih (s.size-(i+3)) (by omega) (i+3) _ rfl h0
          simp only[aZ,cZ] at this
          omega
        ·rw[if_neg h3] at h0;simp at h0
      ·rw[if_neg h1] at h0;simp at h0
     ·by_cases hb:((bt s i).toNat:Int)<32∨126<((bt s i).toNat:Int)
      ·rw[wJ h uJ FZ hb] at h0;simp at h0
      ·rw[xG h uJ FZ hb] at h0 ⊢
       have:=ih (s.size-(i+1)) (by omega) (i+1) _ rfl h0
       simp only[aZ,cZ] at this
       omega
   ·rw[Aj h] at h0;simp at h0
theorem XP {s:ByteArray} {i:Nat} {wh:Bool} (hi:i<s.size)(h0:(iT s i wh).2.2.1=0):Hr (iT s i wh).1∧vH (iT s i wh).1=0∧(i:Int)+(iC (iT s i wh).1:Int)≤(iT s i wh).2.1:=by
 unfold iT at h0 ⊢
 split at h0
 ·simp at h0
 ·rename_i hw
  rw[if_neg hw]
  split at h0
  ·rename_i hl
   rw[if_pos hl]
   have hr:=qM (p:=o9) (s:=s) _ i rfl
   have hlt:=P9 hi hl
   have hsz:(s.extract i (kP o9 s i)).size=kP o9 s i-i:=by
    have:=hr.2 (by omega)
    rw[ByteArray.size_extract]
    omega
   refine⟨.atom _ _ (fun e=>?_) (fun c hc=>?_),AA (by decide) _ _ _ _,?_⟩
   ·have:(s.extract i (kP o9 s i)).data.toList.length=kP o9 s i-i:=by rw[←hsz];simp only[Array.length_toList];rfl
    rw[e] at this
    simp at this
    omega
   ·obtain⟨k,k1,k2,rfl⟩:=KL (hr.2 (by omega)) hc
    exact KJ _ i rfl k k1 k2
   ·simp only[iC,iD]
    rw[if_pos trivial,hsz]
    omega
  ·rename_i hl
   rw[if_neg hl]
   split at h0
   ·rename_i hd
    rw[if_pos hd]
    cases hq:jX s i with
    | none=>rw[hq] at h0;simp at h0
    | some ne =>
      obtain⟨n,e⟩:=ne
      have he:=BL hi hq
      refine⟨.num n _ ?_ ?_,AA (by decide) _ _ _ _,?_⟩
      ·unfold jX at hq
       split at hq
       ·cases hq
       ·split at hq
        ·rename_i v hv
         injection hq with hq
         injection hq with hq _
         subst hq
         have:=(Lib.parseIntB_bounds hv).1
         simpa using this
        ·cases hq
      ·unfold jX at hq
       split at hq
       ·cases hq
       ·split at hq
        ·rename_i v hv
         injection hq with hq
         injection hq with hq _
         subst hq
         have:=(Lib.parseIntB_bounds hv).2
         simp at this
         omega
        ·cases hq
      ·simp only[iC,iD]
       rw[if_neg (by decide)]
       show (i:Int)+((0+1+0:Nat):Int)≤(e:Int)
       omega
   ·rename_i hd
    rw[if_neg hd]
    split at h0
    ·rename_i uJ
     rw[if_pos uJ]
     have ht:=DF s i _ (i+1) [] rfl (by omega) (by omega) (by omega) (by simp)
     have hlen:=Ry s i _ (i+1) [] rfl h0
     refine⟨.str _ _ ?_,AA (by decide) _ _ _ _,?_⟩
     ·exact ht.2.2.1
     ·simp only[iC,iD]
      rw[if_neg (by decide)]
      show (i:Int)+(((textE s i).1.length+1+0:Nat):Int)≤((textE s i).2.1:Int)
      unfold textE
      simp only[List.length_nil] at hlen
      omega
    ·simp at h0
theorem UW (s:ByteArray):∀ (n i:Nat)(op dn:List T),s.size-i=n→i≤s.size→KI op dn i→op.length≤12→(fZ s op dn i).2.1=0→Hr (fZ s op dn i).1∧vH (fZ s op dn i).1≤12∧iC (fZ s op dn i).1≤s.size:=by
 intro n
 induction n using Nat.strongRecOn with
 | _ n ih =>
   intro i op dn hn hi hinv hop h0
   by_cases h:i<s.size
   ·by_cases hb:((bt s i).toNat:Int)=32∨((bt s i).toNat:Int)=10
    ·rw[vG h hb] at h0 ⊢
     exact ih (s.size-(i+1)) (by omega) (i+1) op dn rfl (by omega) ⟨hinv.o_,hinv.d_,by have:=hinv.cost;omega⟩ hop h0
    ·by_cases zZ:((bt s i).toNat:Int)=40
     ·rw[D9 h zZ] at h0 ⊢
      by_cases h12:12≤op.length
      ·rw[if_pos h12] at h0;simp at h0
      ·rw[if_neg h12] at h0 ⊢
       by_cases hd:0<dn.length
       ·rw[if_pos hd] at h0;simp at h0
       ·rw[if_neg hd] at h0 ⊢
        refine ih (s.size-(i+1)) (by omega) (i+1) _ dn rfl (by omega) ⟨fun j t hj=>?_,hinv.d_,?_⟩ (by simp;omega) h0
        ·rcases Nat.lt_or_ge j op.length with hjl|hjl
         ·rw[List.getElem?_append_left hjl] at hj
          exact hinv.o_ j t hj
         ·rw[bK hjl] at hj
          have hj1:=(aV.1 hj).1
          simp at hj1
          obtain rfl:j=op.length:=by omega
          simp at hj
          subst hj
          exact⟨rfl,rfl,rfl,(fun e he=>by cases he),by simp only[T.kids,qV];omega⟩
        ·have:=hinv.cost
         rw[lI,pU]
         simp only[iC,iD]
         rw[if_neg (by decide)]
         show iD op+(0+1+0)+iD dn≤i+1
         omega
     ·by_cases Oj:((bt s i).toNat:Int)=41
      ·rcases Nat.eq_zero_or_pos op.length with hz|hpos
       ·rw[zi h Oj hz] at h0;simp at h0
       ·obtain⟨m,hm⟩:∃ m,op.length=m+1:=⟨op.length-1,by omega⟩
        obtain⟨t,ht⟩:∃ t,op[m]?=some t:=⟨_,aO (by omega)⟩
        rw[BM h Oj hm ht] at h0 ⊢
        have hto:=(hinv.o_ m t ht).ok
        have hsplit:op=op.take m++[t]:=by
         have h1:=List.take_add_one (l:=op) (i:=m)
         rw[ht,←hm,List.take_length] at h1
         exact h1
        have hc:=hinv.cost
        rw[hsplit,lI,pU] at hc
        have hinv':KI (op.take m) dn (i-iC t):=⟨(fun j x hj=>by
         rw[List.getElem?_take] at hj
         split at hj
         ·exact hinv.o_ j x hj
         ·cases hj),hinv.d_,by omega⟩
        have hadd:=hinv'.add hto.1 (by rw[List.length_take];omega)
        refine ih (s.size-(i+1)) (by omega) (i+1) _ _ rfl (by omega) ⟨hadd.o_,hadd.d_,by have:=hadd.cost;omega⟩ ?_ h0
        have hl:(sS (op.take m) dn t).1.length=(op.take m).length:=by
         unfold sS
         split <;> simp
        rw[hl,List.length_take]
        omega
      ·by_cases hw:(iT s i (decide (0<dn.length))).2.2.1=0
       ·rw[Ea h (fun e=>hb (.inl e)) (fun e=>hb (.inr e)) zZ Oj hw] at h0 ⊢
        obtain⟨k1,k2,k3⟩:=XP h hw
        have ke:=(D8 (decide (0<dn.length)) h).2.1 hw
        have hadd:=hinv.add k1 (by rw[k2];omega)
        refine ih (s.size-(iT s i (decide (0<dn.length))).2.1.toNat) (by omega) _ _ _ rfl (by omega) ⟨hadd.o_,hadd.d_,by have:=hadd.cost;omega⟩ ?_ h0
        have hl:(sS op dn (iT s i (decide (0<dn.length))).1).1.length=op.length:=by
         unfold sS
         split <;> simp
        rw[hl]
        exact hop
       ·rw[Ho h (fun e=>hb (.inl e)) (fun e=>hb (.inr e)) zZ Oj hw] at h0
        exact absurd h0 hw
   ·rw[Hq h] at h0 ⊢
    by_cases hp:0<op.length
    ·rw[if_pos hp] at h0;simp at h0
    ·rw[if_neg hp] at h0 ⊢
     cases dn with
     | nil=>simp at h0
     | cons t dn =>
       obtain⟨k1,k2⟩:=hinv.d_ t bH
       refine⟨k1,k2,?_⟩
       have:=hinv.cost
       have e:iD (t::dn)=iC t+iD dn:=by rw[iD]
       rw[e] at this
       show iC t≤_
       omega
theorem XQ {s:ByteArray} (h:(fZ s [] [] 0).2.1=0):Hr (fZ s [] [] 0).1∧vH (fZ s [] [] 0).1≤12∧iC (fZ s [] [] 0).1≤s.size :=
 UW s _ 0 [] [] rfl (aX _) ⟨(fun j t h=>by simp at h),(fun t ht=>by cases ht),by simp[iD]⟩ (by simp) h
abbrev uZ:=List C×Int×ByteArray
def kQ (why:Int)(nm:ByteArray):uZ:=([],why,nm)
def gQ (l:List C):uZ:=if l.length=0∨6<l.length then kQ 23 ⟨#[]⟩ else (l,0,⟨#[]⟩)
def iL (iH:List C):List C→List (ByteArray×E)→uZ
 | acc,[]=>gQ acc
 | acc,(c,e)::r=>if (jf iH e).2=0 then (if fO acc c=true then kQ 21 c else iL iH (acc++[⟨c,(jf iH e).1⟩]) r) else kQ (jf iH e).2 ⟨#[]⟩
def yS (l:List ByteArray)(s:ByteArray):Bool:=l.any fun x=>x.toList==s.toList
def kU (l:List C)(i:Int):C:=l.getD i.toNat ⟨⟨#[]⟩,0⟩
def ve (a b:List C)(left right:List ByteArray)(n:Nat):Int×ByteArray :=
 if fO a (left.getD n ⟨#[]⟩)=false then (20,left.getD n ⟨#[]⟩)
 else if fO b (right.getD n ⟨#[]⟩)=false then (20,right.getD n ⟨#[]⟩)
 else if yS (left.take n) (left.getD n ⟨#[]⟩)=true then (21,left.getD n ⟨#[]⟩)
 else if yS (right.take n) (right.getD n ⟨#[]⟩)=true then (21,right.getD n ⟨#[]⟩)
 else if (kU a (gU a (left.getD n ⟨#[]⟩))).k=(kU b (gU b (right.getD n ⟨#[]⟩))).k then (0,⟨#[]⟩) else (22,left.getD n ⟨#[]⟩)
def mr (a b:List C)(left right:List ByteArray):Nat→Nat→Int×ByteArray
 | _,0=>(0,⟨#[]⟩)
 | n,m+1=>if (ve a b left right n).1=0 then mr a b left right (n+1) m else ve a b left right n
def kE (right:List ByteArray):List C→List C→uZ
 | acc,[]=>gQ acc
 | acc,c::r=>if yS right c.nm=true then kE right acc r else if fO acc c.nm=true then kQ 21 c.nm else kE right (acc++[c]) r
def qU (a b:List C)(left right:List ByteArray):uZ :=
 if left.length≠right.length∨left.length=0 then kQ 23 ⟨#[]⟩
 else if (mr a b left right 0 left.length).1=0 then kE right a b else ([],mr a b left right 0 left.length)
def kS (a:List C):List C→List C→uZ
 | x::l,y::r=>if x.k=y.k then kS a l r else kQ 22 x.nm
 | _,_=>(a,0,⟨#[]⟩)
def qy (a b:List C):uZ:=if a.length=b.length then kS a a b else kQ 23 ⟨#[]⟩
def iW (iH:List C):List C→List Ag→uZ
 | acc,[]=>gQ acc
 | acc,g::r=>if fO acc g.nm=true then kQ 21 g.nm
   else if g.fn.toList=ig then iW iH (acc++[⟨g.nm,1⟩]) r
   else if fO iH g.xH=false then kQ 20 g.xH
   else if g.fn.toList=pY∧(kU iH (gU iH g.xH)).k≠1 then kQ 22 g.xH
   else iW iH (acc++[⟨g.nm,(kU iH (gU iH g.xH)).k⟩]) r
def jB (iH:List C)(ag:List Ag):List C→List ByteArray→uZ
 | acc,[]=>iW iH acc ag
 | acc,s::r=>if fO iH s=false then kQ 20 s else if fO acc s=true then kQ 21 s else jB iH ag (acc++[kU iH (gU iH s)]) r
def yT (S:Nat→Prop)(R:uZ)(e:Ending)(w':World):Prop :=
 ∃ (A:Option Addr)(n c:Nat),e=.returned (.tuple #[.slice A n c,.agg #[.int .i64 R.2.1,.string R.2.2]])∧(R.2.1=0→n=R.1.length∧n≤c∧iY w' S A R.1)
theorem je {S:Nat→Prop} {R:uZ} {e:Ending} {w':World} {why:Int} {nm:ByteArray} (hw:why≠0)(hR:R=kQ why nm)(he:e=.returned (.tuple #[.slice none 0 0,.agg #[.int .i64 why,.string nm]])):yT S R e w':=by
 subst hR
 exact⟨none,0,0,he,fun h=>absurd h hw⟩
theorem eF {fn:Func} {p q:Tmp} (h:fn.results=#[.tmp q,.cell p 61]) {tmps:Array Value} {w:World} {g:Nat} {x0 x1 u:Value} {t:TypeId}
 (hq:tmps.getD q undef=u)(hp:tmps.getD p undef=.pointer (some ⟨g,0,none⟩))(hg:w.heap[g]?=some (.cells #[x0,x1] t (0,0))):(results fn tmps).run Tryz.prog w=.ok (.tuple #[u,.agg #[x0,x1]]) w:=by
 have hp':tmps[p]?.getD undef=.pointer (some ⟨g,0,none⟩):=by simpa using hp
 have hq':tmps[q]?.getD undef=u:=by simpa using hq
 have hl:=run_loadVar_row (P:=Tryz.prog) w g t 61 #[x0,x1] (0,0) _ hg Tryz.underlying61 rfl (by show _=some 2;kernel_rfl)
 simp[results,h,hp',hq',asAddr,hl]
theorem lH {fn:Func} {p:Tmp} (h:fn.results=#[.cell p 61]) {tmps:Array Value} {w:World} {g:Nat} {x0 x1:Value} {t:TypeId}
 (hp:tmps.getD p undef=.pointer (some ⟨g,0,none⟩))(hg:w.heap[g]?=some (.cells #[x0,x1] t (0,0))):(results fn tmps).run Tryz.prog w=.ok (.agg #[x0,x1]) w:=by
 have hp':tmps[p]?.getD undef=.pointer (some ⟨g,0,none⟩):=by simpa using hp
 have hl:=run_loadVar_row (P:=Tryz.prog) w g t 61 #[x0,x1] (0,0) _ hg Tryz.underlying61 rfl (by show _=some 2;kernel_rfl)
 simp[results,h,hp',asAddr,hl]
def xK (w:World)(p:Nat)(x0 x1:Value):World:=(w.setCell ⟨p,0,none⟩ x0).setCell ⟨p,1,none⟩ x1
theorem eX {w:World} {p:Nat} {a b x0 x1:Value} {t:TypeId} (h:w.heap[p]?=some (.cells #[a,b] t (0,0))):(xK w p x0 x1).heap[p]?=some (.cells #[x0,x1] t (0,0)):=Qa (k:=1) (Qa (k:=0) h)
theorem mW {w:World} {p:Nat} {a b x0 x1:Value} {t:TypeId} (h:w.heap[p]?=some (.cells #[a,b] t (0,0))):(xK w p x0 x1).drew.heap[p]?=some (.cells #[x0,x1] t (0,0)):=(show (xK w p x0 x1).drew.heap[p]?=(xK w p x0 x1).heap[p]? from rfl).trans (eX h)
theorem eG {w a:World} {p B:Nat} {x0 x1:Value} (h:Below B a w)(hp:B≤p):Below B a (xK w p x0 x1) :=
 (h.setCell (p:=⟨p,0,none⟩) hp x0).setCell (p:=⟨p,1,none⟩) hp x1
theorem jT {w:World} {p k:Nat} {x0 x1:Value} (h:k≠p):(xK w p x0 x1).heap[k]?=w.heap[k]?:=by
 simp only[xK,World.setCell,Array.getElem?_modify]
 rw[if_neg (by omega),if_neg (by omega)]
theorem Q4 {w:World} {p:Nat} {x0 x1:Value}:(xK w p x0 x1).heap.size=w.heap.size:=by simp[xK,World.setCell]
end Go.Proofs.YtjhkihkiebnpaaaGreatDoor
