/-
  Package plan's reader: plan.
-/
import Derived.Test.YtjhkihkiebnpaaaGreatDoorMk2
import Derived.Deep.DeepCutAuto
import Derived.IntWalk
import Derived.Deep.CutBlock
import Derived.Deep.RegionLaw
import Derived.Deep.AppendLies
import Derived.Test.YtjhkihkiebnpaaaGreatDoorMk4
import Derived.Test.YtjhkihkiebnpaaaGreatDoorMk5
import Derived.Test.YtjhkihkiebnpaaaGreatDoorMk1
set_option linter.unusedVariables false
set_option linter.unusedSimpArgs false
set_option maxRecDepth 100000
set_option maxHeartbeats 40000000
namespace Go.Proofs.YtjhkihkiebnpaaaGreatDoor
open Go.RowKit
inductive T.Small:T→Prop
 | mk (k:Int)(s:ByteArray)(n:Int)(l:List T)(a:Int)(hl:l.length≤600)(h:∀ e∈l,T.Small e):T.Small (.mk k s n l a)
def xX (g:Nat)(w:World)(q:P×eY)(r:Ending)(w':World):Prop :=
 (∃ a,r=.returned (q.1.val a)∧jS w' (fun k=>w.heap.size≤k∧k<w'.heap.size) q.1 a)∧Only g w w'∧qo w' g q.2
def Me (t:T):Prop:=T.Small t→∀ (A:Option Addr)(c:Nat)(g:Nat)(st:eY)(w:World),qo w g st→t.kids.length≤c→bz w g A t.kids →
 Calls Tryz.prog 30 #[.pointer (some ⟨g,0,none⟩),t.val A c] w (xX g w (aX t st))
theorem MB (w:List UInt8)(l:List T):bY w l=0∨(bY w l=1∧l.length=2)∨(bY w l=2∧l.length=3)∨(bY w l=3∧3≤l.length∧(bT l 1).all aW=true) ∨
 (bY w l=4∧l.length=5)∨(bY w l=5∧l.length=3)∨(bY w l=6∧l.length=2)∨(bY w l=7∧3≤l.length∧(bT l 2).all ik=true):=by
 unfold bY
 repeat' split
 all_goals simp_all
theorem Fv (l:List T)(st:eY):bM l l.length st=([],st):=by rw [jg,List.drop_length,bM]
theorem zA {w:World} {S:Nat→Prop} {g:Nat} {e:E} {A:Option Addr} {c:Nat} {t:TypeId} (hb:w.heap[g]?=some (.cells #[.int .i64 e.k,.string e.s,.int .i64 e.n,.slice A e.kids.length c] t (0,0)))(hg:S g)(h:gy w S A e.kids):gy w S (some ⟨g,0,none⟩) [e]:=by
 obtain ⟨⟨k0,k1,k2,k3⟩,_⟩:=bQ hb
 refine .mk g 0 [e] (by simp) hg (fun _=>A) (fun _=>c) (fun i x hx=>?_) (fun i x hx=>?_)
 ·cases i with
  | zero=>obtain rfl:e=x:=by simpa using hx
          exact ⟨k0,k1,k2,k3⟩
  | succ i=>simp at hx
 ·cases i with
  | zero=>obtain rfl:e=x:=by simpa using hx
          exact h
  | succ i=>simp at hx
theorem Qd {ln kn c:Nat} (h1:kn≤ln)(h0:kn=1∨kn=2)(hc:ln≤c)(h6:ln≤600):∃ d:Nat,(ln:Int)-(kn:Int)=(d:Int)∧d≤ln∧(d:Int)≤(ln:Int)∧(0:Int)≤(d:Int)∧wrap64 (d:Int)=(d:Int)∧¬c=d∧kn+d=ln∧d=ln-kn :=
 ⟨ln-kn,by omega,by omega,by omega,by omega,IntWalk.wrap64_in _ (by omega),by omega,by omega,rfl⟩
def ach (g pb:Nat)(w2 wc:World)(a0:PA)(p0:P)(l:List T)(d kn:Nat)(st0:eY)(i:Value)(wr:World):Prop :=
 ∃ (j:Nat)(ps:List QP)(v:Value)(stj:eY),j≤kn∧i=.int .i64 j∧ps.length=j ∧
   wr.heap[pb]?=some (.cells #[.int .i64 p0.k,.string p0.nm,.slice a0.ea p0.ex.length a0.ec,.slice a0.ca p0.cols.length a0.cc,.slice a0.la p0.left.length a0.lc,.slice a0.ra p0.right.length a0.rc,.slice a0.ga p0.ag.length a0.gc,v] 27 (0,0)) ∧
   wr.ownsRow wc.heap.size 27 8 v j (kM ps)∧(∀ p∈ps,jS wr (fun k=>wc.heap.size≤k∧k<wr.heap.size∧v.ownBlock≠some k) p.1 p.2) ∧
   Only g w2 wr∧(∀ k,pb<k→k<wc.heap.size→wr.heap[k]?=wc.heap[k]?)∧qo wr g stj ∧
   bM (l.drop d) 0 st0=(ps.map Prod.fst++(bM (l.drop (d+j)) 0 stj).1,(bM (l.drop (d+j)) 0 stj).2)∧wc.heap.size≤wr.heap.size
theorem bz.at3 {w:World} {B b o:Nat} {l:List T} (h:bz w B (some ⟨b,o,none⟩) l) {d j:Nat} {x:T} (hx:l[d+j]?=some x) :
 ∃ A' c',b<B∧w.cell? ⟨b,o+d*5+j*5,none⟩=some (.int .i64 x.k)∧w.cell? ⟨b,o+d*5+j*5+1,none⟩=some (.string x.s) ∧
   w.cell? ⟨b,o+d*5+j*5+2,none⟩=some (.int .i64 x.n)∧w.cell? ⟨b,o+d*5+j*5+3,none⟩=some (.slice A' x.kids.length c')∧w.cell? ⟨b,o+d*5+j*5+4,none⟩=some (.int .i64 x.at_)∧x.kids.length≤c'∧bz w B A' x.kids:=by
 cases h with
 | nil A=>simp at hx
 | mk _ _ _ hn hlt A c h hk =>
   obtain ⟨h1,h2,h3,h4,h5,h6⟩:=h (d+j) x hx
   rw [show o+(d+j)*5=o+d*5+j*5 by omega] at h1 h2 h3 h4 h5
   exact ⟨A (d+j),c (d+j),hlt,h1,h2,h3,h4,h5,h6,hk _ x hx⟩
theorem Zl {l:List T} {ln kn d j:Nat} (h1:ln=l.length)(h2:kn+d=ln)(h3:j<kn):d+j<l.length:=by omega
theorem lnd {ln kn d:Nat} (h2:kn+d=ln):ln-d=kn:=by omega
theorem Bg {j kn:Nat} (h:j<kn):kn-(intOf (Value.int .i64 ((j:Int)+1))).toNat<kn-(intOf (Value.int .i64 (j:Int))).toNat:=by
 simp [intOf];omega
theorem Qe {g pb:Nat} {w2 wc wr wx w3 w5:World} {a0 aq:PA} {p0:P} {l:List T} {d kn j g' cap:Nat} {st0 stj:eY} {ps:List QP} {v:Value} {q:P×eY}
 (hj:j<kn)(hpl:ps.length=j)(Ji:pb<wc.heap.size)(oI:g<pb)(hw2:w2.heap.size≤pb)
 (hown:wr.ownsRow wc.heap.size 27 8 v j (kM ps))(hxk:∀ p∈ps,jS wr (fun k=>wc.heap.size≤k∧k<wr.heap.size∧v.ownBlock≠some k) p.1 p.2)
 (ho:Only g w2 wr)(hold:∀ k,pb<k→k<wc.heap.size→wr.heap[k]?=wc.heap[k]?)(Be:wc.heap.size≤wr.heap.size)
 (hz:bM (l.drop d) 0 st0=(ps.map Prod.fst++(bM (l.drop (d+j)) 0 stj).1,(bM (l.drop (d+j)) 0 stj).2))
 (hst:bM (l.drop (d+j)) 0 stj=(q.1::(bM (l.drop (d+j+1)) 0 q.2).1,(bM (l.drop (d+j+1)) 0 q.2).2))
 (hbx:Below wr.heap.size wr wx)(ho3:Only g wx w3)(hr3:qo w3 g q.2)(hX:jS w3 (fun k=>wx.drew.heap.size≤k∧k<w3.heap.size) q.1 aq)
 (hg5:w3.grownBy w5 v.ownBlock)(dP:w5.ownsRow wc.heap.size 27 8 (.slice (some ⟨g',0,none⟩) (j+1) cap) (j+1) (kM ps++QP.cs (q.1,aq)))
 (hat:(Value.slice (some ⟨g',0,none⟩) (j+1) cap).ownBlock=v.ownBlock∨∃ n,(Value.slice (some ⟨g',0,none⟩) (j+1) cap).ownBlock=some n∧w3.heap.size≤n)
 (he5:w5.heap[pb]?=some (.cells #[.int .i64 p0.k,.string p0.nm,.slice a0.ea p0.ex.length a0.ec,.slice a0.ca p0.cols.length a0.cc,.slice a0.la p0.left.length a0.lc,.slice a0.ra p0.right.length a0.rc,.slice a0.ga p0.ag.length a0.gc,v] 27 (0,0))) :
 ach g pb w2 wc a0 p0 l d kn st0 (.int .i64 ((j:Int)+1)) (w5.setCell ⟨pb,7,none⟩ (.slice (some ⟨g',0,none⟩) (j+1) cap)):=by
 have s1:=hbx.size
 have s2:=ho3.size
 have s5:=hg5.size
 have hv1:∀ k,v.ownBlock=some k→wc.heap.size≤k∧k<wr.heap.size:=fun k e=>hown.lt k e
 have hX':jS w3 (fun k=>wr.heap.size≤k∧k<w3.heap.size) q.1 aq:=hX.mono fun k hk=>⟨anv s1 hk.1,hk.2⟩
 have hne:g'≠pb:=fun e=>by
  rcases hat with h | ⟨n,h,h2⟩
  ·have:=hv1 g' (by rw [←h];rfl);omega
  ·have:n=g':=by simpa [Value.ownBlock] using h.symm
   omega
 have hoth:∀ k,k≠pb→k≠g→k<wr.heap.size→v.ownBlock≠some k→(w5.setCell ⟨pb,7,none⟩ (.slice (some ⟨g',0,none⟩) (j+1) cap)).heap[k]?=wr.heap[k]?:=fun k h1 h2 h3 h4 =>
  (ann w5 ⟨pb,7,none⟩ _ k h1).trans ((hg5.block k (by omega) fun e=>h4 e.symm).trans ((ho3.block k (by omega) h2).trans (hbx.block k h3)))
 have TF:∀ k,wr.heap.size≤k→k<w3.heap.size→(w5.setCell ⟨pb,7,none⟩ (.slice (some ⟨g',0,none⟩) (j+1) cap)).heap[k]?=w3.heap[k]?:=fun k h1 h2 =>
  (ann w5 ⟨pb,7,none⟩ _ k (by show k≠pb;omega)).trans (hg5.block k h2 fun e=>by have:=(hv1 k e.symm).2;omega)
 refine ⟨j+1,ps++[(q.1,aq)],.slice (some ⟨g',0,none⟩) (j+1) cap,q.2,hj,by simp,by rw [List.length_append,hpl];rfl,fQ (k:=7) he5,?_,?_,?_,?_,?_,?_,?_⟩
 ·rw [wX,yR]
  exact kN dP (ann w5 ⟨pb,7,none⟩ _ g' hne)
 ·have h6:(w5.setCell ⟨pb,7,none⟩ (.slice (some ⟨g',0,none⟩) (j+1) cap)).heap.size=w5.heap.size:=by simp [World.setCell]
  exact IG hxk hX' Be (fun k h1 h2 h3=>hoth k (by omega) (by omega) h2 h3) (fun k h1 h2=>TF k h1 h2) (anv s1 s2) (by rw [h6];exact s5) (fun k e=>(hv1 k e).2) hat
 ·exact (((ho.bel hbx).trans ho3).grown hg5 (fun k e=>by have:=(hv1 k e).1;omega)).aA (p:=⟨pb,7,none⟩) hw2 _
 ·intro k h1 h2
  exact (hoth k (by omega) (by omega) (by omega) (fun e=>by have:=(hv1 k e).1;omega)).trans (hold k h1 h2)
 ·exact (ann w5 ⟨pb,7,none⟩ _ g (by show g≠pb;omega)).trans ((hg5.block g hr3.lt (fun e=>by have:=(hv1 g e.symm).1;omega)).trans hr3)
 ·rw [hz,hst,List.map_append,List.append_assoc]
  rfl
 ·simp only [World.setCell,Array.size_modify]
  omega
theorem TG {l:List T} {d kn ln j:Nat} {st0 stj:eY} {ps:List QP} (h1:ln=l.length)(h2:kn+d=ln)(h3:d=ln-kn)(hj:j≤kn)(hn:¬j<kn)
 (hz:bM (l.drop d) 0 st0=(ps.map Prod.fst++(bM (l.drop (d+j)) 0 stj).1,(bM (l.drop (d+j)) 0 stj).2)):bM l (ln-kn) st0=(ps.map Prod.fst,stj):=by
 rw [jg,←h3,hz,List.drop_eq_nil_of_le (by omega),bM,List.append_nil]
theorem TI {g pb:Nat} {w w2 wc wr:World} {a0:PA} {p0:P} {A9:Option Addr} {c9:Nat} {ks:List P} {stj:eY} (hg:g<w.heap.size)(h2:w.heap.size+1<w2.heap.size)(hpb:w2.heap.size≤pb)(Ji:pb<wc.heap.size)(Be:wc.heap.size≤wr.heap.size)
 (how:Only g w w2)(ho:Only g w2 wr)(hold:∀ k,pb<k→k<wc.heap.size→wr.heap[k]?=wc.heap[k]?)(hparts:lq wc (fun k=>pb<k∧k<wc.heap.size) p0 a0)(hr:qo wr g stj)
 (hX:yQ wr (fun k=>wc.heap.size≤k∧k<wr.heap.size) A9 ks) {x0 x1 x2 x3 x4 x5 x6 x7:Value} (hx:Value.agg #[x0,x1,x2,x3,x4,x5,x6,x7]=(p0.put ks).val { a0 with ka:=A9,kc:=c9 }) :
 xX g w (p0.put ks,stj) (.returned (.agg #[x0,x1,x2,x3,x4,x5,x6,x7])) (rO wr (w.heap.size+1) x0 x1 x2 x3 x4 x5 x6 x7):=by
 refine ⟨⟨{ a0 with ka:=A9,kc:=c9 },by rw [hx],?_,?_⟩,yS (how.trans ho) (Nat.le_succ _),(gz (by omega)).trans hr⟩
 ·have h:=(hparts.kept fun k hk=>(gz (x0:=x0) (x1:=x1) (x2:=x2) (x3:=x3) (x4:=x4) (x5:=x5) (x6:=x6) (x7:=x7) (p:=w.heap.size+1) (by have:=hk.1;omega)).trans (hold k hk.1 hk.2)).mono (S':=fun k=>w.heap.size≤k∧k<(rO wr (w.heap.size+1) x0 x1 x2 x3 x4 x5 x6 x7).heap.size) (fun k hk=>⟨by have:=hk.1;omega,by rw [kC];have:=hk.2;omega⟩)
  exact ⟨h.ex,h.cols,h.left,h.right,h.ag,h.l1,h.l2,h.l3,h.l4,h.l5⟩
 ·exact (hX.kept fun k hk=>gz (by have:=hk.1;omega)).mono fun k hk=>⟨by have:=hk.1;omega,by rw [kC];exact hk.2⟩
theorem aci {j kn:Nat} (h:j≤kn)(h2:kn=1∨kn=2):j≤9223372036854775807:=by omega
theorem Oq (p0:P)(ks:List P)(a0:PA)(A9:Option Addr)(c9:Nat):(p0.put ks).val { a0 with ka:=A9,kc:=c9 }=.agg #[.int .i64 p0.k,.string p0.nm,.slice a0.ea p0.ex.length a0.ec,.slice a0.ca p0.cols.length a0.cc,.slice a0.la p0.left.length a0.lc,.slice a0.ra p0.right.length a0.rc,.slice a0.ga p0.ag.length a0.gc,.slice A9 ks.length c9]:=rfl
theorem T.Small.len {x:T} (h:T.Small x):x.kids.length≤600:=by cases h;assumption
theorem Ot {j:Nat} (h:j≤600):j+1≤maxLen:=by unfold maxLen;omega
theorem ae9 {j kn:Nat} (h:j<kn)(h2:kn=1∨kn=2):j≤600:=by omega
theorem Jj {j:Nat} (h:j≤600):(j+1)*168≤140737488355328:=by omega
theorem TK {g:Nat} {w2 w3 w4 w5:World} {l:List T} {x y:T} {a:Int} {st:eY} {A4 A5:Option Addr} {c4 c5 xm ym:Nat}
 (hL4:Lies w4 (fun k=>w3.drew.heap.size≤k∧k<w4.heap.size) A4 (strs (x.kids.map T.s)))(hL5:Lies w5 (fun k=>w4.heap.size≤k∧k<w5.heap.size) A5 (strs (y.kids.map T.s)))(sD:Only g w3 w4)(dP:Only g w4 w5)
 (lS:qo w5 g (dY y.kids (dY x.kids st)))(hs7:Only g w2 ((w5.setCell ⟨w2.heap.size,4,none⟩ (.slice A4 xm c4)).setCell ⟨w2.heap.size,5,none⟩ (.slice A5 ym c5)))
 (Yx:((w5.setCell ⟨w2.heap.size,4,none⟩ (.slice A4 xm c4)).setCell ⟨w2.heap.size,5,none⟩ (.slice A5 ym c5)).heap[w2.heap.size]?=some (.cells #[.int .i64 4,.string ⟨#[]⟩,.slice none 0 0,.slice none 0 0,.slice A4 xm c4,.slice A5 ym c5,.slice none 0 0,.slice none 0 0] 27 (0,0)))
 (hs3:w2.heap.size<w3.heap.size)(hkl:aJ 4≤l.length)(hxl:x.kids.length=xm)(hyl:y.kids.length=ym)(RN:xm≤c4)(hyc:ym≤c5)(hg:g<w2.heap.size)(hx6:x.kids.length≤600)(hy6:y.kids.length≤600)
 (hbp:aT 4 l=.mk 4 ⟨#[]⟩ [] [] (x.kids.map T.s) (y.kids.map T.s) [] [])(hbr:dM 4 l a st=dY y.kids (dY x.kids st)) :
 VX g w2.heap.size w2 4 l (dM 4 l a st) (.int .i64 2) ((w5.setCell ⟨w2.heap.size,4,none⟩ (.slice A4 xm c4)).setCell ⟨w2.heap.size,5,none⟩ (.slice A5 ym c5)):=by
 have z4:=sD.size
 have z5:=dP.size
 have z3:w3.drew.heap.size=w3.heap.size:=rfl
 have hoth:∀ k,k≠w2.heap.size→((w5.setCell ⟨w2.heap.size,4,none⟩ (.slice A4 xm c4)).setCell ⟨w2.heap.size,5,none⟩ (.slice A5 ym c5)).heap[k]?=w5.heap[k]?:=fun k h =>
  (ann _ ⟨w2.heap.size,5,none⟩ _ k h).trans (ann _ ⟨w2.heap.size,4,none⟩ _ k h)
 have hsz:((w5.setCell ⟨w2.heap.size,4,none⟩ (.slice A4 xm c4)).setCell ⟨w2.heap.size,5,none⟩ (.slice A5 ym c5)).heap.size=w5.heap.size:=by simp [World.setCell]
 refine ⟨{ oG with la:=A4,lc:=c4,ra:=A5,rc:=c5 },rfl,.inr rfl,hkl,?_,?_,hs7,?_⟩
 ·rw [Yx,hbp]
  simp only [P.k,P.nm,P.ex,P.cols,P.left,P.right,P.ag,List.length_map,hxl,hyl]
  rfl
 ·rw [hbp]
  refine ⟨.nil _,.inl rfl,?_,?_,.inl rfl,by simp [P.ex],by simp [P.cols],by simp only [P.left,List.length_map];exact ⟨by omega,by rw [hxl];exact RN⟩,by simp only [P.right,List.length_map];exact ⟨by omega,by rw [hyl];exact hyc⟩,by simp [P.ag]⟩
  ·exact (hL4.kept fun k hk=>(hoth k (by have:=hk.1;omega)).trans (dP.block k hk.2 (by have:=hk.1;omega))).mono fun k hk=>⟨by have:=hk.1;omega,by rw [hsz];have:=hk.2;omega⟩
  ·exact (hL5.kept fun k hk=>hoth k (by have:=hk.1;omega)).mono fun k hk=>⟨by have:=hk.1;omega,by rw [hsz];exact hk.2⟩
 ·rw [hbr]
  exact (hoth g (by omega)).trans lS
theorem Qg (k:Int)(s:ByteArray)(n:Int)(l:List T)(a:Int)(hM:∀ e∈l,Me e):Me (.mk k s n l a):=by
 intro hsm A c g st w h hc hA
 obtain ⟨_,_,_,_,_,xH,hks⟩:=hsm
 rw [aX]
 have hkind:=fun w' hA'=>RX (.mk k s n l a) A c w' hc hA'
 have hshape:=MB (iR (.mk k s n l a)).toList l
 rw [show bY (iR (.mk k s n l a)).toList l=fA (.mk k s n l a) from rfl] at hshape
 generalize fA (.mk k s n l a)=kd at *
 simp only [T.val,T.k,T.s,T.n,T.kids,T.at_] at hc hA hkind ⊢
 have hlt:=h.lt
 obtain ⟨ln,oL⟩:∃ ln,ln=l.length:=⟨_,rfl⟩
 obtain ⟨wa,nC⟩:∃ wa,wa=w.alloc (.cells #[.int .i64 k,.string s,.int .i64 n,.slice A ln c,.int .i64 a] 71):=⟨_,rfl⟩
 have hba:Below w.heap.size w wa:=by rw [nC];exact (anl _ _).alloc (ank _) _
 have hsa:wa.heap.size=w.heap.size+1:=by rw [nC];simp
 have hxa:wa.heap[w.heap.size]?=some (.cells #[.int .i64 k,.string s,.int .i64 n,.slice A ln c,.int .i64 a] 71 (0,0)):=by rw [nC];exact anm w _
 obtain ⟨w1,aK⟩:∃ w1,w1=wa.alloc (.cells #[.int .i64 0,.string ⟨#[]⟩,.slice none 0 0,.slice none 0 0,.slice none 0 0,.slice none 0 0,.slice none 0 0,.slice none 0 0] 27):=⟨_,rfl⟩
 have hb1:Below wa.heap.size wa w1:=by rw [aK];exact (anl _ _).alloc (ank _) _
 have hs1:w.heap.size+1<w1.heap.size:=by rw [aK];simp;omega
 have hr1:w1.heap[w.heap.size+1]?=some (.cells #[.int .i64 0,.string ⟨#[]⟩,.slice none 0 0,.slice none 0 0,.slice none 0 0,.slice none 0 0,.slice none 0 0,.slice none 0 0] 27 (0,0)):=by rw [aK,←hsa];exact anm wa _
 have hx1:w1.heap[w.heap.size]?=some (.cells #[.int .i64 k,.string s,.int .i64 n,.slice A ln c,.int .i64 a] 71 (0,0)):=(hb1.block _ (by omega)).trans hxa
 have hbw:Below w.heap.size w w1:=hba.trans (hb1.mono (by omega))
 have KH:=anc (hkind w1 ((hA.low (hbw.mono (Nat.le_of_lt hlt))).more (by omega)))
 rw [←oL] at KH
 have HW1:=anc (show w1=(w.alloc (.cells #[.int .i64 k,.string s,.int .i64 n,.slice A ln c,.int .i64 a] 71)).alloc (.cells #[.int .i64 0,.string ⟨#[]⟩,.slice none 0 0,.slice none 0 0,.slice none 0 0,.slice none 0 0,.slice none 0 0,.slice none 0 0] 27) by rw [aK,nC])
 have Kz:=anc (hA.low (hbw.mono (Nat.le_of_lt hlt)))
 have HR1:=anc (h.kept hbw)
 have gU:=anc hx1
 have HT1:=anc hr1
 have HB1:=anc hbw
 have jh:=anc oL
 have HM:=anc hM
 have TL:=anc hks
 obtain ⟨⟨k0,k1,k2,k3,k4⟩,_,_,_,_,_⟩:=ay hx1
 rw [←oL]
 clear nC hba hsa hxa aK hb1 hr1 hx1 hbw h hA hkind hM hks oL wa
 go_enter Tryz.func30,Tryz.ntmps30
 go_upto_region 1 with (fail)
 rw [←HW1.out]
 go_wp2_with fail
 refine (KH.out).mono ?_
 rintro e w2 ⟨rfl,hb2⟩
 have HB2:=anc hb2
 have hs2:=hb2.size
 have dG:=anc ((hb2.block w.heap.size (by omega)).trans gU.out)
 have HT2:=anc ((hb2.block (w.heap.size+1) (by omega)).trans HT1.out)
 have HR2:=anc (HR1.out.kept hb2)
 have vJ:=anc (Kz.out.low (hb2.mono (by omega:g≤w1.heap.size)))
 clear hb2 k0 k1 k2 k3 k4
 obtain ⟨w3,lI⟩:∃ w3,w3=w2.alloc (.cells #[.int .i64 kd,.string ⟨#[]⟩,.slice none 0 0,.slice none 0 0,.slice none 0 0,.slice none 0 0,.slice none 0 0,.slice none 0 0] 27):=⟨_,rfl⟩
 have hb3:Below w2.heap.size w2 w3:=by rw [lI];exact (anl _ _).alloc (ank _) _
 have hs3:w2.heap.size<w3.heap.size:=by rw [lI];simp
 have mP:=anc ((hb3.block w.heap.size (by omega)).trans dG.out)
 have HT3:=anc ((hb3.block (w.heap.size+1) (by omega)).trans HT2.out)
 have HR3:=anc (HR2.out.kept hb3)
 have P6:=anc (vJ.out.low (hb3.mono (by omega:g≤w2.heap.size)))
 have Eg:Hid (w3.heap[w2.heap.size]?=some (.cells #[.int .i64 kd,.string ⟨#[]⟩,.slice none 0 0,.slice none 0 0,.slice none 0 0,.slice none 0 0,.slice none 0 0,.slice none 0 0] 27 (0,0))):=anc (by rw [lI];exact anm w2 _)
 have Kw:Hid (Only g w w3):=anc (((aF HB1.out).bel HB2.out).bel hb3)
 have HW3:=anc lI
 have Wy:Hid (Only g w2 w3):=anc (aF hb3)
 clear lI hb3 HR2 gU HT1 HR1 Kz
 go_upto_region 2 with (fail)
 rw [←HW3.out]
 obtain ⟨⟨k0,k1,k2,k3,k4⟩,_,_,_,_,_⟩:=ay mP.out
 have xY:Hid (Only g w2 w3):=anc Wy.out
 obtain ⟨d0,d1,d2,d3,d4,d5,d6,d7,f0,f1,f2,f3,f4,f5,f6,f7⟩:=az Eg.out
 go_upto_block 0 with (fail)
 clear d0 d1 d2 d3 d4 d5 d6 d7 f0 f1 f2 f3 f4 f5 f6 f7
 go_cut [7] (fun s7 wx=>VX g w2.heap.size w2 kd l (dM kd l a st) s7 wx)
 case first =>
  rcases hshape with rfl | ⟨rfl,h2⟩ | ⟨rfl,h2⟩ | ⟨rfl,h2,h3⟩ | ⟨rfl,h2⟩ | ⟨rfl,h2⟩ | ⟨rfl,h2⟩ | ⟨rfl,h2,h3⟩
  ·have HRF:=anc (dD g st 12 a w3 HR3.out)
   have hpl:Hid (bM l (ln-aJ 0) (dM 0 l a st)=([],dM 0 l a st)):=anc (by rw [show aJ 0=0 from rfl,Nat.sub_zero,jh.out,Fv])
   have hbr:Hid (dM 0 l a st=rF 12 a st):=anc rfl
   have hbp:Hid (aT 0 l=.mk 0 ⟨#[]⟩ [] [] [] [] [] []):=anc rfl
   obtain ⟨d0,d1,d2,d3,d4,d5,d6,d7,f0,f1,f2,f3,f4,f5,f6,f7⟩:=az Eg.out
   go_wp2_with fail
   refine (HRF.out).mono ?_
   rintro e w4 ⟨rfl,sD,hr4⟩
   have jZ:=anc sD
   have HR4:=anc hr4
   have hs4:=sD.size
   have yG:=anc ((sD.block w2.heap.size (by omega) (by omega)).trans Eg.out)
   have HT4:=anc ((sD.block (w.heap.size+1) (by omega) (by omega)).trans HT3.out)
   clear sD hr4 d0 d1 d2 d3 d4 d5 d6 d7 f0 f1 f2 f3 f4 f5 f6 f7
   obtain ⟨d0,d1,d2,d3,d4,d5,d6,d7,f0,f1,f2,f3,f4,f5,f6,f7⟩:=az yG.out
   obtain ⟨t0,t1,t2,t3,t4,t5,t6,t7,g0,g1,g2,g3,g4,g5,g6,g7⟩:=az HT4.out
   go_wp2_with fail
   refine ano (mi rfl rfl (di HT4.out)) rfl ?_
   unfold xX
   rw [hpl.out,hbp.out,hbr.out]
   exact ⟨⟨oG,rfl,iV _ _ _ _,.nil _⟩,yS (Kw.out.trans jZ.out) (Nat.le_succ _),(gz (by omega)).trans HR4.out⟩
  ·obtain ⟨x,hx⟩:∃ x,l[1]?=some x:=⟨_,anr (by omega)⟩
   obtain ⟨bx,ox,A1,c1,ex,hgx,x0,x1,x2,x3,x4,hcx,hKx⟩:=P6.out.at (by omega) hx
   subst ex
   rw [Nat.one_mul] at x0 x1 x2 x3 x4
   have HN:=anc (fG x A1 c1 g st w3 HR3.out)
   have hbp:Hid (aT 1 l=.mk 1 x.s [] [] [] [] [] []):=anc (by unfold aT;rw [if_pos rfl,getD_some hx])
   have hbr:Hid (dM 1 l a st=eF x st):=anc (by unfold dM;rw [if_pos rfl,getD_some hx])
   have hpl:Hid (bM l (ln-aJ 1) (dM 1 l a st)=([],dM 1 l a st)):=anc (by rw [show aJ 1=0 from rfl,Nat.sub_zero,jh.out,Fv])
   have hnm:(T.val x A1 c1)=T.val x A1 c1:=rfl
   have hm1:1<ln:=by rw [jh.out];omega
   have hm2:(1:Int)<(ln:Int):=by omega
   generalize eF x st=st1 at *
   obtain ⟨xk,xs,xn,xl,xa⟩:=x
   simp only [T.val,T.k,T.s,T.n,T.kids,T.at_] at x0 x1 x2 x3 x4 HN hbp
   clear hx hcx hKx hnm h2
   generalize xl.length=xm at *
   obtain ⟨d0,d1,d2,d3,d4,d5,d6,d7,f0,f1,f2,f3,f4,f5,f6,f7⟩:=az Eg.out
   go_wp2_with fail
   refine (HN.out).mono ?_
   rintro e w4 ⟨rfl,sD,hr4⟩
   have jZ:=anc sD
   have HR4:=anc hr4
   have hs4:=sD.size
   have yG:=anc (fQ (k:=1) (u:=.string xs) ((sD.block w2.heap.size (by omega) (by omega)).trans Eg.out))
   have afb:=anc ((sD.block w2.heap.size (by omega) (by omega)).trans Eg.out)
   have HT4:=anc ((ann w4 ⟨w2.heap.size,1,none⟩ (.string xs) (w.heap.size+1) (by show w.heap.size+1≠w2.heap.size;omega)).trans ((sD.block (w.heap.size+1) (by omega) (by omega)).trans HT3.out))
   clear sD hr4 d0 d1 d2 d3 d4 d5 d6 d7 f0 f1 f2 f3 f4 f5 f6 f7
   obtain ⟨d0,d1,d2,d3,d4,d5,d6,d7,f0,f1,f2,f3,f4,f5,f6,f7⟩:=az afb.out
   obtain ⟨t0,t1,t2,t3,t4,t5,t6,t7,g0,g1,g2,g3,g4,g5,g6,g7⟩:=az HT4.out
   obtain ⟨r0,r1,r2,r3,r4,r5,r6,r7,_,_,_,_,_,_,_,_⟩:=az yG.out
   go_wp2_with fail
   refine ano (mi rfl rfl (di HT4.out)) rfl ?_
   unfold xX
   rw [hpl.out,hbp.out,hbr.out]
   refine ⟨⟨oG,rfl,iV _ _ _ _,.nil _⟩,yS ((Kw.out.trans jZ.out).aA (p:=⟨w2.heap.size,1,none⟩) (by show w.heap.size≤w2.heap.size;omega) _) (Nat.le_succ _),?_⟩
   exact (gz (by omega)).trans ((ann w4 ⟨w2.heap.size,1,none⟩ _ g (by show g≠w2.heap.size;omega)).trans HR4.out)
  ·obtain ⟨x,hx⟩:∃ x,l[1]?=some x:=⟨_,anr (by omega)⟩
   obtain ⟨bx,ox,A1,c1,ex,hgx,x0,x1,x2,x3,x4,hcx,hKx⟩:=P6.out.at (by omega) hx
   subst ex
   rw [Nat.one_mul] at x0 x1 x2 x3 x4
   have HN:=anc (EK x A1 c1 g st w3 HR3.out hcx (hKx.more (by omega)))
   have hbp:Hid (aT 2 l=.mk 2 ⟨#[]⟩ [(aI x).1] [] [] [] [] []):=anc (by unfold aT;rw [if_neg (by decide),if_pos rfl,getD_some hx])
   have hbr:Hid (dM 2 l a st=kW x st):=anc (by unfold dM;rw [if_neg (by decide),if_pos rfl,getD_some hx])
   have hm1:1<ln:=by rw [jh.out];omega
   have hm2:(1:Int)<(ln:Int):=by omega
   have KU:aJ 2≤l.length:=by rw [show aJ 2=1 from rfl];omega
   generalize kW x st=st1 at *
   generalize (aI x).1=ex at *
   obtain ⟨xk,xs,xn,xl,xa⟩:=x
   obtain ⟨ek,es,en,el⟩:=ex
   simp only [T.val,E.val,E.k,E.s,E.n,E.kids,T.k,T.s,T.n,T.kids,T.at_] at x0 x1 x2 x3 x4 HN
   clear hx hcx hKx h2
   generalize xl.length=xm at *
   obtain ⟨em,hem⟩:∃ em,em=el.length:=⟨_,rfl⟩
   rw [←hem] at HN
   obtain ⟨d0,d1,d2,d3,d4,d5,d6,d7,f0,f1,f2,f3,f4,f5,f6,f7⟩:=az Eg.out
   have wF:=anc hem
   clear hem
   go_wp2_with fail
   refine (HN.out).mono ?_
   rintro e w4 ⟨⟨A4,c4,rfl,hX4⟩,sD,hr4⟩
   have qU:=anc hX4
   have jZ:=anc sD
   have HR4:=anc hr4
   have hs4:=sD.size
   have yG:=anc ((sD.block w2.heap.size (by omega) (by omega)).trans Eg.out)
   clear sD hr4 hX4 d0 d1 d2 d3 d4 d5 d6 d7 f0 f1 f2 f3 f4 f5 f6 f7
   obtain ⟨d0,d1,d2,d3,d4,d5,d6,d7,f0,f1,f2,f3,f4,f5,f6,f7⟩:=az ((ant w4 (Obj.cells #[.int .i64 ek,.string es,.int .i64 en,.slice A4 em c4] 38) w2.heap.size (by omega)).trans yG.out)
   go_wp2_with fail
   go_meet
   case rel =>
    have hne:w4.heap.size≠w2.heap.size:=by omega
    refine ⟨{ oG with ea:=some ⟨w4.heap.size,0,none⟩,ec:=1 },rfl,.inl rfl,KU,?_,⟨?_,.inl rfl,.inl rfl,.inl rfl,.inl rfl,by rw [hbp.out];simp [P.ex],by rw [hbp.out];simp [P.cols],by rw [hbp.out];simp [P.left],by rw [hbp.out];simp [P.right],by rw [hbp.out];simp [P.ag]⟩,?_,?_⟩
    ·rw [hbp.out]
     exact fQ (k:=2) ((ant w4 _ w2.heap.size (by omega)).trans yG.out)
    ·rw [hbp.out]
     refine zA (e:=.mk ek es en el) (A:=A4) (c:=c4) (t:=38) ?_ ?_ ?_
     ·refine (ann _ ⟨w2.heap.size,2,none⟩ _ _ hne).trans ?_
      show (w4.alloc _).heap[_]?=some (Obj.cells #[.int .i64 ek,.string es,.int .i64 en,.slice A4 el.length c4] _ _)
      rw [←wF.out]
      exact anm w4 _
     ·refine ⟨by omega,?_⟩
      simp [World.setCell]
     ·refine (qU.out.kept fun k hk=>(ann _ ⟨w2.heap.size,2,none⟩ _ k (by show k≠w2.heap.size;have:=hk.1;omega)).trans (ant w4 _ k hk.2)).mono fun k hk=>⟨by have:=hk.1;omega,?_⟩
      have:=hk.2
      simp [World.setCell]
      omega
    ·exact ((xY.out.trans jZ.out).alloc _).aA (p:=⟨w2.heap.size,2,none⟩) (ank _) _
    ·rw [hbr.out]
     exact (ann _ ⟨w2.heap.size,2,none⟩ _ g (by show g≠w2.heap.size;omega)).trans (HR4.out.kept ((anl _ _).alloc (ank _) _))
  ·have oI:g<w2.heap.size:=anp hlt (anv (Nat.le_of_lt (Nat.lt_of_succ_lt hs1)) hs2)
   obtain ⟨m,e1,y0,hy0,hmid,q1,q2,q3,q4,q5,q6,q7,q8,q9,q10,KD,hkl,hg3,hg3'⟩:=Sr jh.out h2 hc xH oI hs3
   obtain ⟨b,o,_,_,e9,hgb,_⟩:=P6.out.at hg3 hy0
   subst e9
   have hml:=Bc hmid
   have CJ:=anc hml
   have MC:=anc (fun j (hj:j<m)=>Bd hmid hj)
   have Rt:=anc (fun j (hj:j<m)=>Gq hmid hj)
   have hbp:Hid (aT 3 l=.mk 3 ⟨#[]⟩ ((bT l 1).map uI) ((bT l 1).map lX) [] [] [] []):=anc rfl
   have hbr:Hid (dM 3 l a st=nT (bT l 1) st):=anc rfl
   have Bf:=anc (List.all_eq_true.1 h3)
   have zB:g≤w2.heap.size:=Nat.le_of_lt oI
   generalize hmd:bT l 1=mid at *
   clear hy0 h2 h3 hml hmid hmd
   obtain ⟨iS,iS1,iS2,iS3,iS4⟩:=info_parts o9
   obtain ⟨iE,iE1,iE2,iE3,iE4⟩:=info_parts tZ
   obtain ⟨d0,d1,d2,d3,d4,d5,d6,d7,f0,f1,f2,f3,f4,f5,f6,f7⟩:=az Eg.out
   go_wp2_with fail
   clear q1 q2 q3 q4 q5 q6 q7 q8 q9 q10 d0 d1 d2 d3 d4 d5 d6 d7 f0 f1 f2 f3 f4 f5 f6 f7
   go_loopw [55] (fun i wr=>Y0 g w2.heap.size w2 w3.heap.size mid st i wr) (fun i _=>m-(intOf i).toNat)
   case atStart=>exact Lp Eg.out xY.out HR3.out
   case round =>
    obtain ⟨j,ps,v2,v3,hj,rfl,hps,hC⟩:=hrel
    rw [CJ.out] at hj
    have HC:=anc hC
    have rq:=anc hps
    clear hC hps
    by_cases hlt2:j<m
    ·obtain ⟨x,hx⟩:=Rt.out j hlt2
     have hxm:=anc ((MC.out j hlt2).trans hx)
     obtain ⟨y,z,hk,hk2⟩:=Ae (Bf.out x (anq hxm.out))
     have HK:=anc hk
     obtain ⟨b2,o2,c2,A3,c3,A4,c4,hc2,hc3,hc4,hF⟩:=Pv vJ.out zB hx hk
     have HF:=anc hF
     have hCL:=anc (Lr (f:=lX) CJ.out hj)
     have hPL:=anc (Y1 CJ.out hj rq.out)
     have hrs:=anc (BP hxm.out st)
     obtain ⟨x0,x1,x2,x3,x4,_,_,_,_,_,_,_,_,_,_,_,_⟩:=hF wr HC.out.only
     obtain ⟨wx,dN⟩:∃ wx,wx=wr.alloc (.cells #[.int .i64 x.k,.string x.s,.int .i64 x.n,.slice (some ⟨b2,o2,none⟩) 2 c2,.int .i64 x.at_] 71):=⟨_,rfl⟩
     have hbx:Below wr.heap.size wr wx:=by rw [dN];exact (anl _ _).alloc (ank _) _
     have hnx:wx.heap[wr.heap.size]?=some (.cells #[.int .i64 x.k,.string x.s,.int .i64 x.n,.slice (some ⟨b2,o2,none⟩) 2 c2,.int .i64 x.at_] 71 (0,0)):=by rw [dN];exact anm wr _
     have hnx2:=anc (show wx.heap[wr.heap.size]?=some (.cells #[.int .i64 x.k,.string x.s,.int .i64 x.n,.slice (some ⟨b2,o2,none⟩) x.kids.length c2,.int .i64 x.at_] 71 (0,0)) by rw [hk2];exact hnx)
     have VC:=anc (HC.out.EU (aF hbx) (HC.out.rd.kept hbx) oI hs3)
     obtain ⟨_,_,_,_,_,y0,y1,y2,y3,y4,_,_,_,_,_,hKy,_⟩:=hF wx VC.out.only
     have HN:=anc (fG y A3 c3 g (nT (mid.take j) st) wx.drew VC.out.rd)
     have jM:=anc dN
     have vH:=anc hbx
     have HDX:=anc (az VC.out.box).c3
     have g0:=HDX.out
     have hv3:Hid (v3.ownBlock≠some w2.heap.size):=anc (qy HC.out.pI hs3)
     obtain ⟨⟨n0,n1,n2,n3,n4⟩,_,_,_,_,_⟩:=ay hnx
     have KJ:j≤600:=anv hj KD
     clear hF dN hbx hnx hx hKy hk
     generalize hcs:(mid.take j).map lX=cs at *
     have Pz:=anc hcs
     clear hcs
     generalize hst:nT (mid.take j) st=stj at *
     have HST:=anc hst
     clear hst
     obtain ⟨xk,xs,xn,xl,xa⟩:=x
     obtain ⟨yk,ys,yn,yl,ya⟩:=y
     simp only [T.val,T.k,T.s,T.n,T.kids,T.at_] at x0 x1 x2 x3 x4 y0 y1 y2 y3 y4 n0 n1 n2 n3 n4 HN jM hc3
     generalize hyl:yl.length=ym at *
     go_upto_region 16 with (fail)
     rw [←jM.out]
     go_cut [55] (fun s55 wm=>s55=.int .i64 j∧abP g w2.heap.size w2 w3.heap.size wr.heap.size (.mk xk xs xn xl xa) (some ⟨b2,o2,none⟩) c2 v2 ps (cs++[ys]) (eF (.mk yk ys yn yl ya) stj) wm)
     case first =>
      go_region_law (first
       | (refine step_append_lies _ rfl _ _ _ rfl w3.heap.size 9 iS _ 1 16 Tryz.underlying23 iS1 iS2 iS3 iS4 rfl (by decide) _ _ _ rfl (VD.out.pI.alloc _) ⟨w4.heap.size,0,none⟩ 1 1 [.string ys] rfl rfl (World.news_of_block (anm w4 _)) BR (by decide) (lJ hCL.out KJ) (jP hCL.out KJ (by decide)) (anv VD.out.size (aG w4 _ _).size) _ rfl ?_;intro g' cap w5 hown5 hgrow hat yU
          have fV:=anc hown5
          have qx:Hid (w4.grownBy w5 v3.ownBlock):=anc ((World.grownBy_alloc _ _ _).trans hgrow)
          have gY:Hid ((Value.slice (some ⟨g',0,none⟩) (cs.length+1) cap).ownBlock=v3.ownBlock∨∃ n,(Value.slice (some ⟨g',0,none⟩) (cs.length+1) cap).ownBlock=some n∧w4.heap.size≤n):=anc (hat.imp (fun h=>h.symm) fun h=>⟨g',rfl,by rw [h];exact (aG w4 _ _).size⟩)
          have Lj:=anc ((qx.out.block w2.heap.size (anp hs3 VD.out.size) (fun e=>hv3.out e.symm)).trans VD.out.box)
          obtain ⟨d0,d1,d2,d3,d4,d5,d6,d7,f0,f1,f2,f3,f4,f5,f6,f7⟩:=az Lj.out
          clear hown5 hgrow hat)
       | (go_simp;go_at_call 57;refine (HN.out).mono ?_;rintro e w4 ⟨rfl,hod,hr4⟩
          have jZ:=anc hod.yO
          have VD:=anc (VC.out.EU jZ.out hr4 oI hs3)
          have g3:w4.cell? ⟨w2.heap.size,3,none⟩=some v3:=(az VD.out.box).c3
          have Ro:(w4.alloc (.cells #[.string ys] 9)).cell? ⟨w2.heap.size,3,none⟩=some v3:=(World.cell?_alloc_some _ _ _ (by rw [g3];rfl)).trans g3
          clear hod hr4))
      all_goals
       go_wp2_with fail
       go_meet
       case rel=>exact ⟨rfl,VY HC.out hnx2.out jZ.out VD.out qx.out fV.out gY.out oI hs3 (ank _)⟩
     case rest =>
      obtain ⟨rfl,v5,hCS,hq,hn2,hn3⟩:=hcut
      have HC5:=anc hCS
      simp only [T.k,T.s,T.n,T.kids,T.at_] at hq hk2
      rw [hk2] at hq
      obtain ⟨_,_,_,_,_,_,_,_,_,_,z0,z1,z2,z3,z4,_,_⟩:=HF.out wc hCS.only
      have GI:=EK z A4 c4 g (eF (.mk yk ys yn yl ya) stj) wc.drew hCS.rd hc4 ((HF.out wc.drew hCS.only.drew).kz.more (anv hg3 hCS.size))
      have g0':=(az hCS.box).c2
      have hv2:Hid (v2.ownBlock≠some w2.heap.size):=anc (qy HC5.out.qY hs3)
      have hz2:=anc (fun k (e:v2.ownBlock=some k)=>(HC5.out.qY.lt k e).2)
      have hz3:=anc (fun k (e:v5.ownBlock=some k)=>(HC5.out.pI.lt k e).2)
      obtain ⟨⟨n0,n1,n2,n3,n4⟩,_,_,_,_,_⟩:=ay hq
      have hre:Hid (ps.length=j):=hPL
      generalize hE:(aI z).1=re at *
      generalize hX:kW z (eF (.mk yk ys yn yl ya) stj)=st5 at *
      have HE:=anc hE
      have HX:=anc hX
      clear hCS hq hE hX hn2 hn3
      obtain ⟨ek,es,en,el⟩:=re
      obtain ⟨zk,zs,zn,zl,za⟩:=z
      simp only [E.val,E.k,E.s,E.n,E.kids,T.val,T.k,T.s,T.n,T.kids,T.at_] at GI z0 z1 z2 z3 z4
      have GK:=anc GI
      clear GI
      generalize zl.length=zm at *
      go_upto_region 17 with (fail)
      go_region_law (first
       | (refine step_append_lies _ rfl _ _ _ rfl w3.heap.size 38 iE _ 4 56 Tryz.underlying22 iE1 iE2 iE3 iE4 rfl (by decide) _ _ _ rfl (zu.out.qY.alloc _) ⟨w6.heap.size,0,none⟩ 1 1 (EP.cs ((.mk ek es en el:E),A6,c6)) rfl rfl (World.news_of_block (anm w6 _)) (by rw [←kY];exact vg _) (by decide) (lJ hre.out KJ) (jP hre.out KJ (by decide)) (anv zu.out.size (aG w6 _ _).size) _ rfl ?_;intro g' cap w7 fU hgrow hat Ee
          have Ef:=anc fU
          have uU:Hid (w6.grownBy w7 v2.ownBlock):=anc ((World.grownBy_alloc _ _ _).trans hgrow)
          have qI:Hid ((Value.slice (some ⟨g',0,none⟩) (ps.length+1) cap).ownBlock=v2.ownBlock∨∃ n,(Value.slice (some ⟨g',0,none⟩) (ps.length+1) cap).ownBlock=some n∧w6.heap.size≤n):=anc (hat.imp (fun h=>h.symm) fun h=>⟨g',rfl,by rw [h];exact (aG w6 _ _).size⟩)
          have DV:=anc ((uU.out.block w2.heap.size (anp hs3 zu.out.size) (fun e=>hv2.out e.symm)).trans zu.out.box)
          obtain ⟨d0,d1,d2,d3,d4,d5,d6,d7,f0,f1,f2,f3,f4,f5,f6,f7⟩:=az DV.out
          clear fU hgrow hat)
       | (go_simp;go_at_call 58;refine (GK.out).mono ?_;rintro e w6 ⟨⟨A6,c6,rfl,CE⟩,hod,nN⟩
          have CG:=anc CE
          have nU:=anc hod.yO
          have zu:=anc (HC5.out.EU nU.out nN oI hs3)
          have g3:w6.cell? ⟨w2.heap.size,2,none⟩=some v2:=(az zu.out.box).c2
          have Ro:(w6.alloc (.cells #[.int .i64 ek,.string es,.int .i64 en,.slice A6 el.length c6] 38)).cell? ⟨w2.heap.size,2,none⟩=some v2:=(World.cell?_alloc_some _ _ _ (by rw [g3];rfl)).trans g3
          clear hod nN CE))
      all_goals
       go_wp2_with fail
       go_roundw
       case measure=>exact Bg hlt2
       case rel=>exact Po (A:=A6) (c:=c6) hxm.out HK.out rq.out (by rw [Pz.out,HST.out,HX.out,HE.out];exact zu.out.step2 uU.out Ef.out qI.out CG.out HC5.out.size hz2.out hz3.out oI hs3 (ank _))
    ·have HMD:=anc (Y2 CJ.out hj hlt2 rq.out HC.out hbp.out hbr.out hkl KD hs3)
     go_wp2_with fail
     go_meet
     case rel=>exact HMD.out
  ·obtain ⟨x,hx⟩:∃ x,l[1]?=some x:=⟨_,anr (by omega)⟩
   obtain ⟨y,hy⟩:∃ y,l[2]?=some y:=⟨_,anr (by omega)⟩
   have zB:g≤w2.heap.size:=by omega
   obtain ⟨bx,ox,A1,c1,ex,hgx,x0,x1,x2,x3,x4,hcx,hKx⟩:=vJ.out.at zB hx
   obtain ⟨by',oy,A2,c2,ey,hgy,y0,y1,y2,y3,y4,hcy,hKy⟩:=vJ.out.at zB hy
   obtain ⟨rfl,rfl⟩:bx=by'∧ox=oy:=by rw [ex] at ey;injection ey with ey;injection ey with e1 e2;exact ⟨e1,e2⟩
   subst ex
   clear ey
   rw [Nat.one_mul] at x3
   have hsx:=(TL.out x (anq hx)).len
   have hsy:=(TL.out y (anq hy)).len
   have j3:w2.cell? ⟨w.heap.size,3,none⟩=some (.slice (some ⟨bx,ox,none⟩) ln c):=(ay dG.out).1.2.2.2.1
   have oI:g<w2.heap.size:=by omega
   have q1:w.heap.size<w2.heap.size:=by omega
   have q2:w.heap.size≠g:=by omega
   have q3:bx<w2.heap.size:=by omega
   have q4:bx≠g:=by omega
   have hx6:=hsx
   have hy6:=hsy
   have Si:=anc (fun wx hx hA=>vC x.kids hsx A1 c1 g st wx hx hA)
   have GK:=anc (fun wx st' hx hA=>vC y.kids hsy A2 c2 g st' wx hx hA)
   have HKX:=anc hKx
   have HKY:=anc hKy
   have hbp:Hid (aT 4 l=.mk 4 ⟨#[]⟩ [] [] (x.kids.map T.s) (y.kids.map T.s) [] []):=anc (by unfold aT;rw [if_neg (by decide),if_neg (by decide),if_neg (by decide),if_pos rfl,getD_some hx,getD_some hy])
   have hbr:Hid (dM 4 l a st=dY y.kids (dY x.kids st)):=anc (by unfold dM;rw [if_neg (by decide),if_neg (by decide),if_neg (by decide),if_pos rfl,getD_some hx,getD_some hy])
   have hm1:1<ln:=by rw [jh.out];omega
   have hm2:(1:Int)<(ln:Int):=by omega
   have KU:(2:Int)<(ln:Int):=by have:=jh.out;omega
   have hm4:2<ln:=by omega
   have hkl:aJ 4≤l.length:=by rw [show aJ 4=2 from rfl];omega
   have HP2:Hid (∀ wx,Only g w2 wx→wx.cell? ⟨w.heap.size,3,none⟩=some (.slice (some ⟨bx,ox,none⟩) ln c)∧wx.cell? ⟨bx,ox+5+3,none⟩=some (.slice A1 x.kids.length c1)∧wx.cell? ⟨bx,ox+2*5+3,none⟩=some (.slice A2 y.kids.length c2)) :=
    anc fun wx h=>⟨(h.cell (p:=⟨w.heap.size,3,none⟩) q1 q2).trans j3,(h.cell (p:=⟨bx,ox+5+3,none⟩) q3 q4).trans x3,(h.cell (p:=⟨bx,ox+2*5+3,none⟩) q3 q4).trans y3⟩
   clear hx hy hcx hcy hKx hKy x0 x1 x2 x3 x4 y0 y1 y2 y3 y4 j3 h2
   generalize hxl:x.kids.length=xm at *
   generalize hyl:y.kids.length=ym at *
   have BO:=anc hxl
   have HYL:=anc hyl
   clear hxl hyl
   go_upto_region 20 with (fail)
   refine wp_region_held_drew (S:=fun w'=>Only g w2 w') (by kernel_rfl) (xY.out.drew) (fun hHeld=>?_)
   refine wpAnyH_take (i:=0) (v:=.pointer (some ⟨g,0,none⟩)) rfl (by kernel_rfl) (by kernel_rfl) (by kernel_rfl) (fun _ _ _ h=>h) (Or.inl ⟨by rfl,fun w1' hSw=>by (go_simp)⟩) (by assumption) ?_
   simp only [ane,anf,Act.put,anh,ani,anj]
   refine wpAnyH_take (i:=1) (v:=.pointer (some ⟨w.heap.size,3,none⟩)) rfl (by kernel_rfl) (by kernel_rfl) (by kernel_rfl) (fun _ _ _ h=>h) (Or.inl ⟨by rfl,fun w1' hSw=>by (go_simp)⟩) (by assumption) ?_
   simp only [ane,ang,anf,Act.put,anh,ani,anj]
   refine wpAnyH_take (i:=2) (v:=.slice (some ⟨bx,ox,none⟩) ln c) rfl (by kernel_rfl) (by kernel_rfl) (by kernel_rfl) (fun _ _ _ h=>h) (Or.inl ⟨by rfl,fun w1' hSw=>by (obtain ⟨r1,r2,r3⟩:=HP2.out _ hSw;go_simp)⟩) (by assumption) ?_
   simp only [ane,ang,anf,Act.put,anh,ani,anj]
   refine wpAnyH_take (i:=3) (v:=.pointer (some ⟨bx,ox+5,none⟩)) rfl (by kernel_rfl) (by kernel_rfl) (by kernel_rfl) (fun _ _ _ h=>h) (Or.inl ⟨by rfl,fun w1' hSw=>by (go_simp)⟩) (by assumption) ?_
   simp only [ane,ang,anf,Act.put,anh,ani,anj]
   refine wpAnyH_take (i:=4) (v:=.pointer (some ⟨bx,ox+5+3,none⟩)) rfl (by kernel_rfl) (by kernel_rfl) (by kernel_rfl) (fun _ _ _ h=>h) (Or.inl ⟨by rfl,fun w1' hSw=>by (go_simp)⟩) (by assumption) ?_
   simp only [ane,ang,anf,Act.put,anh,ani,anj]
   refine wpAnyH_take (i:=5) (v:=.slice A1 xm c1) rfl (by kernel_rfl) (by kernel_rfl) (by kernel_rfl) (fun _ _ _ h=>h) (Or.inl ⟨by rfl,fun w1' hSw=>by (obtain ⟨r1,r2,r3⟩:=HP2.out _ hSw;go_simp)⟩) (by assumption) ?_
   simp only [ane,ang,anf,Act.put,anh,ani,anj]
   refine wpAnyH_take (i:=7) (v:=.pointer (some ⟨g,0,none⟩)) rfl (by kernel_rfl) (by kernel_rfl) (by kernel_rfl) (fun _ _ _ h=>h) (Or.inl ⟨by rfl,fun w1' hSw=>by (go_simp)⟩) (by assumption) ?_
   simp only [ane,ang,anf,Act.put,anh,ani,anj]
   refine wpAnyH_take (i:=8) (v:=.pointer (some ⟨w.heap.size,3,none⟩)) rfl (by kernel_rfl) (by kernel_rfl) (by kernel_rfl) (fun _ _ _ h=>h) (Or.inl ⟨by rfl,fun w1' hSw=>by (go_simp)⟩) (by assumption) ?_
   simp only [ane,ang,anf,Act.put,anh,ani,anj]
   refine wpAnyH_take (i:=9) (v:=.slice (some ⟨bx,ox,none⟩) ln c) rfl (by kernel_rfl) (by kernel_rfl) (by kernel_rfl) (fun _ _ _ h=>h) (Or.inl ⟨by rfl,fun w1' hSw=>by (obtain ⟨r1,r2,r3⟩:=HP2.out _ hSw;go_simp)⟩) (by assumption) ?_
   simp only [ane,ang,anf,Act.put,anh,ani,anj]
   refine wpAnyH_take (i:=10) (v:=.pointer (some ⟨bx,ox+2*5,none⟩)) rfl (by kernel_rfl) (by kernel_rfl) (by kernel_rfl) (fun _ _ _ h=>h) (Or.inl ⟨by rfl,fun w1' hSw=>by (go_simp)⟩) (by assumption) ?_
   simp only [ane,ang,anf,Act.put,anh,ani,anj]
   refine wpAnyH_take (i:=11) (v:=.pointer (some ⟨bx,ox+2*5+3,none⟩)) rfl (by kernel_rfl) (by kernel_rfl) (by kernel_rfl) (fun _ _ _ h=>h) (Or.inl ⟨by rfl,fun w1' hSw=>by (go_simp)⟩) (by assumption) ?_
   simp only [ane,ang,anf,Act.put,anh,ani,anj]
   refine wpAnyH_take (i:=12) (v:=.slice A2 ym c2) rfl (by kernel_rfl) (by kernel_rfl) (by kernel_rfl) (fun _ _ _ h=>h) (Or.inl ⟨by rfl,fun w1' hSw=>by (obtain ⟨r1,r2,r3⟩:=HP2.out _ hSw;go_simp)⟩) (by assumption) ?_
   simp only [ane,ang,anf,Act.put,anh,ani,anj]
   refine wpAnyH_ready (rs:=[6]) (by kernel_rfl) (by simp) ?_
   refine AllReadyH.cons rfl (fun K hK=>?_) AllReadyH.nil
   simp only [ane,ang,anf]
   go_simp
   refine (Si.out w3.drew HR3.out (HKX.out.low (xY.out.drew.below (B:=g) zB (ank _)))).mono ?_
   rintro e w4 ⟨⟨A4,c4,rfl,hc4,hL4⟩,hd4,hr4⟩
   go_wp2_with fail
   have sD:=hd4.yO
   have hs4:=xY.out.trans sD
   refine hK.out _ _ hs4 (fun hHeld=>?_)
   clear hK K hd4
   refine wpAnyH_take (i:=14) (v:=.pointer (some ⟨w2.heap.size,4,none⟩)) rfl (by kernel_rfl) (by kernel_rfl) (by kernel_rfl) (fun _ _ _ h=>h) (Or.inl ⟨by rfl,fun w1' hSw=>by (go_simp)⟩) (by assumption) ?_
   simp only [ane,ang,anf,Act.put,anh,ani,anj]
   refine wpAnyH_ready (rs:=[13]) (by kernel_rfl) (by simp) ?_
   refine AllReadyH.cons rfl (fun K hK=>?_) AllReadyH.nil
   simp only [ane,ang,anf]
   go_simp
   refine (GK.out w4 _ hr4 (HKY.out.low (hs4.below (B:=g) zB (ank _)))).mono ?_
   rintro e w5 ⟨⟨A5,c5,rfl,hc5,hL5⟩,dP,lS⟩
   go_wp2_with fail
   have hs5:=hs4.trans dP
   refine hK.out _ _ hs5 (fun hHeld=>?_)
   clear hK K
   have z4:=sD.size
   have z5:=dP.size
   have hp5:=(dP.block w2.heap.size (by omega) (by omega)).trans ((sD.block w2.heap.size (by omega) (by omega)).trans Eg.out)
   obtain ⟨d0,d1,d2,d3,d4,d5,d6,d7,f0,f1,f2,f3,f4,f5,f6,f7⟩:=az hp5
   refine wpAnyH_ready (rs:=[15]) (by kernel_rfl) (by simp) ?_
   refine AllReadyH.cons rfl (fun K hK=>?_) AllReadyH.nil
   simp only [ane,ang,anf]
   go_simp
   have hs6:=hs5.aA (p:=⟨w2.heap.size,4,none⟩) (ank _) (.slice A4 xm c4)
   refine hK.out _ _ hs6 (fun hHeld=>?_)
   clear hK K d0 d1 d2 d3 d4 d5 d6 d7 f0 f1 f2 f3 f4 f5 f6 f7
   have hp6:=fQ (k:=4) (u:=.slice A4 xm c4) hp5
   obtain ⟨d0,d1,d2,d3,d4,d5,d6,d7,f0,f1,f2,f3,f4,f5,f6,f7⟩:=az hp6
   refine wpAnyH_take (i:=16) (v:=.pointer (some ⟨w2.heap.size,5,none⟩)) rfl (by kernel_rfl) (by kernel_rfl) (by kernel_rfl) (fun _ _ _ h=>h) (Or.inl ⟨by rfl,fun w1' hSw=>by (go_simp)⟩) (by assumption) ?_
   simp only [ane,ang,anf,Act.put,anh,ani,anj]
   refine wpAnyH_ready (rs:=[17]) (by kernel_rfl) (by simp) ?_
   refine AllReadyH.cons rfl (fun K hK=>?_) AllReadyH.nil
   simp only [ane,ang,anf]
   go_simp
   have hs7:=hs6.aA (p:=⟨w2.heap.size,5,none⟩) (ank _) (.slice A5 ym c5)
   refine hK.out _ _ hs7 (fun hHeld=>?_)
   clear hK K d0 d1 d2 d3 d4 d5 d6 d7 f0 f1 f2 f3 f4 f5 f6 f7
   have Yx:=fQ (k:=5) (u:=.slice A5 ym c5) hp6
   refine wpAnyH_done (by kernel_rfl) ?_ _
   have HP7:=anc Yx
   have HS7:=anc hs7
   have NY:=anc hL4
   have Ru:=anc hL5
   have jZ:=anc sD
   have fV:=anc dP
   have uG:=anc lS
   clear Yx hs7 hs6 hs5 hs4 hp5 hp6 hL4 hL5 sD dP hr4 lS hHeld
   go_wp2_with fail
   go_meet
   case rel=>exact TK NY.out Ru.out jZ.out fV.out uG.out HS7.out HP7.out hs3 hkl BO.out HYL.out (by first | exact hc4 | (rw [←BO.out];exact hc4)) (by first | exact hc5 | (rw [←HYL.out];exact hc5)) oI (by rw [BO.out];exact hx6) (by rw [HYL.out];exact hy6) hbp.out hbr.out
  ·obtain ⟨d0,d1,d2,d3,d4,d5,d6,d7,f0,f1,f2,f3,f4,f5,f6,f7⟩:=az Eg.out
   go_wp2_with fail
   go_meet
   case rel=>exact ⟨oG,rfl,.inr rfl,by rw [show aJ 5=2 from rfl];omega,Eg.out,iV _ _ _ _,xY.out,HR3.out⟩
  ·obtain ⟨d0,d1,d2,d3,d4,d5,d6,d7,f0,f1,f2,f3,f4,f5,f6,f7⟩:=az Eg.out
   go_wp2_with fail
   go_meet
   case rel=>exact ⟨oG,rfl,.inl rfl,by rw [show aJ 6=1 from rfl];omega,Eg.out,iV _ _ _ _,xY.out,HR3.out⟩
  ·have oI:g<w2.heap.size:=anp hlt (anv (Nat.le_of_lt (Nat.lt_of_succ_lt hs1)) hs2)
   obtain ⟨m,e1,y0,x,hy0,hx,hmid,q1,q2,q3,q4,q5,q6,q7,q8,q9,q10,KD,hkl,hg3,hg3',hl1,hl2⟩:=Su jh.out h2 hc xH oI hs3
   obtain ⟨b,o,A1,c1,e9,hgb,x0,x1,x2,x3,x4,hcx,hKx⟩:=P6.out.at hg3 hx
   subst e9
   rw [Nat.one_mul] at x3
   have hml:=Bc hmid
   have CJ:=anc hml
   have MC:=anc (fun j (hj:j<m)=>Bd hmid hj)
   have Rt:=anc (fun j (hj:j<m)=>Gq hmid hj)
   have hsx:=(TL.out x (anq hx)).len
   have hbp:Hid (aT 7 l=.mk 7 ⟨#[]⟩ [] [] (x.kids.map T.s) [] ((bT l 2).map nG) []):=anc (by unfold aT;rw [if_neg (by decide),if_neg (by decide),if_neg (by decide),if_neg (by decide),if_pos rfl,getD_some hx];rfl)
   have hbr:Hid (dM 7 l a st=l7 (bT l 2) (dY x.kids st)):=anc (by unfold dM;rw [if_neg (by decide),if_neg (by decide),if_neg (by decide),if_neg (by decide),if_neg (by decide),if_neg (by decide),if_pos rfl,getD_some hx])
   have Bf:=anc (List.all_eq_true.1 h3)
   have zB:g≤w2.heap.size:=Nat.le_of_lt oI
   have HN:=anc (vC x.kids hsx A1 c1 g st w3 HR3.out hKx)
   generalize hmd:bT l 2=mid at *
   clear hy0 h2 h3 hml hmid hmd x0 x1 x2 x4 hcx hKx hx
   generalize hst1:dY x.kids st=st1 at *
   have acn:=anc hst1
   generalize hxs:x.kids=xs at *
   generalize hxm:xs.length=xm at *
   have Yq:=anc hxm
   clear hst1 hxs hxm
   obtain ⟨iG,iG1,iG2,iG3,iG4⟩:=info_parts IE
   obtain ⟨d0,d1,d2,d3,d4,d5,d6,d7,f0,f1,f2,f3,f4,f5,f6,f7⟩:=az Eg.out
   go_wp2_with fail
   refine (HN.out).mono ?_
   rintro e w4 ⟨⟨A5,c5,rfl,hc5,hL5⟩,sD,hr4⟩
   have jZ:=anc sD
   have HR4:=anc hr4
   have Ru:=anc hL5
   have hs4:=sD.size
   have yG:=anc ((sD.block w2.heap.size hs3 (Nat.ne_of_gt oI)).trans Eg.out)
   have qU:=anc ((ann w4 ⟨w2.heap.size,4,none⟩ (.slice A5 xm c5) w.heap.size (by show w.heap.size≠w2.heap.size;exact Nat.ne_of_lt (anp (Nat.lt_of_succ_lt hs1) hs2))).trans ((sD.block w.heap.size (Nat.lt_trans (anp (Nat.lt_of_succ_lt hs1) hs2) hs3) (Nat.ne_of_gt hlt)).trans mP.out))
   clear sD hr4 hL5 d0 d1 d2 d3 d4 d5 d6 d7 f0 f1 f2 f3 f4 f5 f6 f7 k0 k1 k2 k3 k4 x3
   obtain ⟨⟨k0,k1,k2,k3,k4⟩,_,_,_,_,_⟩:=ay qU.out
   obtain ⟨d0,d1,d2,d3,d4,d5,d6,d7,f0,f1,f2,f3,f4,f5,f6,f7⟩:=az yG.out
   go_wp2_with fail
   clear q1 q2 q3 q4 q5 q6 q7 q8 q9 q10 d0 d1 d2 d3 d4 d5 d6 d7 f0 f1 f2 f3 f4 f5 f6 f7
   have TM:w2.heap.size<w4.heap.size:=anp hs3 hs4
   go_loopw [120] (fun i wr=>VW g w2.heap.size w2 w4.heap.size (.slice A5 xm c5) mid st1 (w4.setCell ⟨w2.heap.size,4,none⟩ (.slice A5 xm c5)) i wr) (fun i _=>m-(intOf i).toNat)
   case atStart=>exact Ls yG.out (xY.out.trans jZ.out) HR4.out oI (ank _)
   case round =>
    obtain ⟨j,v,hj,rfl,hC,hold⟩:=hrel
    rw [CJ.out] at hj
    have HC:=anc hC
    have HOLD:=anc hold
    clear hC hold
    by_cases hlt2:j<m
    ·obtain ⟨x,hx⟩:=Rt.out j hlt2
     have hxm:=anc ((MC.out j hlt2).trans hx)
     have hag:=anc (VZ (Bf.out x (anq hxm.out)))
     obtain ⟨A2,c2,Zm,m0,m1,m2,m3,m4,hcx,hKx⟩:=(vJ.out.low (HC.out.only.below (B:=g) zB (ank _))).at3 hx
     have hgl:=anc (Lr (f:=nG) CJ.out hj)
     have hrs:=anc (BQ hxm.out st1)
     obtain ⟨wx,dN⟩:∃ wx,wx=wr.alloc (.cells #[.int .i64 x.k,.string x.s,.int .i64 x.n,.slice A2 x.kids.length c2,.int .i64 x.at_] 71):=⟨_,rfl⟩
     have hbx:Below wr.heap.size wr wx:=by rw [dN];exact (anl _ _).alloc (ank _) _
     have hnx:wx.heap[wr.heap.size]?=some (.cells #[.int .i64 x.k,.string x.s,.int .i64 x.n,.slice A2 x.kids.length c2,.int .i64 x.at_] 71 (0,0)):=by rw [dN];exact anm wr _
     have VC:=anc (HC.out.EU (aF hbx) (HC.out.rd.kept hbx) oI TM)
     have jq:=anc (RZ x A2 c2 g (l7 (mid.take j) st1) wx.drew VC.out.rd (hKx.low (hbx.drew.mono (anv zB HC.out.only.size))) hag.out)
     have jM:=anc dN
     have vH:=anc hbx
     have HDX:=anc (az VC.out.box).c6
     have g0:=HDX.out
     have hv6:Hid (v.ownBlock≠some w2.heap.size):=anc (qy HC.out.own TM)
     obtain ⟨⟨n0,n1,n2,n3,n4⟩,_,_,_,_,_⟩:=ay hnx
     have KJ:j≤600:=anv hj KD
     clear dN hbx hnx hx hKx hcx Zm
     generalize hgs:(mid.take j).map nG=gs at *
     have HGS:=anc hgs
     clear hgs
     generalize hst:l7 (mid.take j) st1=stj at *
     have HST:=anc hst
     clear hst
     generalize hax:kU x.kids=ax at *
     have HAX:=anc hax
     clear hax
     generalize Be:mg x.kids stj=st5 at *
     have HSR:=anc Be
     clear Be
     obtain ⟨xk,xs',xn,xl,xa⟩:=x
     obtain ⟨an,af,ac⟩:=ax
     simp only [T.val,T.k,T.s,T.n,T.kids,T.at_] at m0 m1 m2 m3 m4 n0 n1 n2 n3 n4 jq jM
     generalize hxl:xl.length=xm2 at *
     clear hxl
     go_upto_region 30 with (fail)
     rw [←jM.out]
     go_region_law (first
      | (refine step_append_lies _ rfl _ _ _ rfl w4.heap.size 46 iG _ 3 48 Tryz.underlying24 iG1 iG2 iG3 iG4 rfl (by decide) _ _ _ rfl (zu.out.own.alloc _) ⟨w6.heap.size,0,none⟩ 1 1 (Ag.cs ⟨an,af,ac⟩) rfl rfl (World.news_of_block (anm w6 _)) (by rw [←yP];exact Lm _) (by decide) (lJ hgl.out KJ) (jP hgl.out KJ (by decide)) (anv zu.out.size (aG w6 _ _).size) _ rfl ?_;intro g' cap w7 fU hgrow hat Ee
         rw [hgl.out] at fU
         have Ef:=anc fU
         have uU:Hid (w6.grownBy w7 v.ownBlock):=anc ((World.grownBy_alloc _ _ _).trans hgrow)
         have qI:Hid ((Value.slice (some ⟨g',0,none⟩) (j+1) cap).ownBlock=v.ownBlock∨∃ n,(Value.slice (some ⟨g',0,none⟩) (j+1) cap).ownBlock=some n∧w6.heap.size≤n):=anc (hat.imp (fun h=>h.symm) fun h=>⟨g',rfl,by rw [h];exact (aG w6 _ _).size⟩)
         have DV:=anc ((uU.out.block w2.heap.size (anp TM zu.out.size) (fun e=>hv6.out e.symm)).trans zu.out.box)
         obtain ⟨d0,d1,d2,d3,d4,d5,d6,d7,f0,f1,f2,f3,f4,f5,f6,f7⟩:=az DV.out
         have afn:=hgl.out
         clear fU hgrow hat)
      | (go_simp;go_at_call 60;refine (jq.out).mono ?_;rintro e w6 ⟨rfl,hod,nN⟩
         have nU:=anc hod.yO
         have zu:=anc (VC.out.EU nU.out nN oI TM)
         have g3:w6.cell? ⟨w2.heap.size,6,none⟩=some v:=(az zu.out.box).c6
         have Ro:(w6.alloc (.cells #[.string an,.string af,.string ac] 46)).cell? ⟨w2.heap.size,6,none⟩=some v:=(World.cell?_alloc_some _ _ _ (by rw [g3];rfl)).trans g3
         clear hod nN))
     all_goals
      rw [afn] at *
      go_wp2_with fail
      go_roundw
      case measure=>exact Bg hlt2
      case rel=>exact Lt HGS.out HST.out HAX.out HSR.out hxm.out HC.out HOLD.out ((aF vH.out).trans nU.out) zu.out uU.out Ef.out qI.out oI TM (ank _)
    ·have HMD:=anc (Y3 CJ.out hj hlt2 (by rw [acn.out];exact HC.out) HOLD.out Ru.out Yq.out (by first | exact hc5 | (rw [←Yq.out];exact hc5)) hsx hbp.out (by rw [acn.out];exact hbr.out) hkl KD hs3 hs4)
     go_wp2_with fail
     go_meet
     case rel=>exact HMD.out
 case rest =>
  obtain ⟨a0,rfl,hkn,hkl,hbx,hparts,hoc,hrc⟩:=hcut
  clear hshape
  generalize hP0:aT kd l=p0 at *
  generalize hR0:dM kd l a st=st0 at *
  generalize hkk:aJ kd=kn at *
  have hsc:=hoc.size
  have zB:g≤w2.heap.size:=by omega
  have oI:g<w2.heap.size:=by omega
  have aco:w.heap.size+1<w2.heap.size:=by omega
  have Ji:w2.heap.size<wc.heap.size:=(Array.getElem?_eq_some_iff.1 hbx).1
  have HXc:=anc ((hoc.block w.heap.size (by omega) (by omega)).trans dG.out)
  have HTc:=anc ((hoc.block (w.heap.size+1) (by omega) (by omega)).trans HT2.out)
  have HKc:=anc (vJ.out.low (hoc.below (B:=g) (by omega) (ank _)))
  have HOC:=anc hoc
  have HRC:=anc hrc
  have Zn:=anc hparts
  have iJ:=anc hbx
  obtain ⟨y,hy⟩:∃ y,l[0]?=some y:=⟨_,anr (by omega)⟩
  obtain ⟨b,o,_,_,e9,hgb,_⟩:=HKc.out.at (by omega) hy
  subst e9
  have hkn2:kn≤ln:=by rw [jh.out];exact hkl
  have afo:ln≤c:=by rw [jh.out];exact hc
  obtain ⟨d,hsub,hdl,hdi,hd0,hwr,hdc,acp,hd⟩:=Qd hkn2 hkn afo (by rw [jh.out];exact xH)
  have HD:=anc hd
  have Zo:=anc acp
  clear hd acp
  clear hoc hrc hparts hbx hy mP HT3 HR3 P6 Eg Kw HW3 Wy xY hs3 KH dG k0 k1 k2 k3 k4
  obtain ⟨⟨k0,k1,k2,k3,k4⟩,_,_,_,_,_⟩:=ay HXc.out
  obtain ⟨i0,hi,hz0,hz1,hz2⟩:=info_parts EN
  go_wp2_with fail
  rw [show ln-d=kn from lnd Zo.out,hwr]
  clear hwr hsub hdc hdi hd0
  go_loopw [140] (fun i wr=>ach g w2.heap.size w2 wc a0 p0 l d kn st0 i wr) (fun i _=>kn-(intOf i).toNat)
  case atStart =>
   refine ⟨0,[],.slice none 0 0,st0,Nat.zero_le _,rfl,rfl,iJ.out,⟨rfl,.inl ⟨rfl,rfl⟩⟩,(fun p hp=>by cases hp),HOC.out,fun _ _ _=>rfl,HRC.out,?_,ank _⟩
   simp
  case round =>
   obtain ⟨j,ps,v,stj,hj,rfl,hpl,hbox,hown,hxk,ho,hold,hra,hz,Be⟩:=hrel
   have acr:=anc hbox
   have HOWN:=anc hown
   have Zp:=anc hxk
   have HO:=anc ho
   have HOLD:=anc hold
   have HRA:=anc hra
   have HZ:=anc hz
   have jI:=anc hpl
   clear hbox hown hxk ho hold hra hz hpl
   have afp:g≤wr.heap.size:=anv zB HO.out.size
   have acs:w2.heap.size<wr.heap.size:=anp Ji Be
   by_cases hlt2:j<kn
   ·obtain ⟨x,hx⟩:∃ x,l[d+j]?=some x:=⟨_,anr (Zl jh.out Zo.out hlt2)⟩
    obtain ⟨A2,c2,Zm,m0,m1,m2,m3,m4,hcx,hKx⟩:=(vJ.out.low (HO.out.below (B:=g) zB (ank _))).at3 hx
    obtain ⟨wx,dN⟩:∃ wx,wx=wr.alloc (.cells #[.int .i64 x.k,.string x.s,.int .i64 x.n,.slice A2 x.kids.length c2,.int .i64 x.at_] 71):=⟨_,rfl⟩
    have hbx:Below wr.heap.size wr wx:=by rw [dN];exact (anl _ _).alloc (ank _) _
    have hsx:wx.heap.size=wr.heap.size+1:=by rw [dN];simp
    have hnx:wx.heap[wr.heap.size]?=some (.cells #[.int .i64 x.k,.string x.s,.int .i64 x.n,.slice A2 x.kids.length c2,.int .i64 x.at_] 71 (0,0)):=by rw [dN];exact anm wr _
    have jq:=anc (HM.out x (anq hx) (TL.out x (anq hx)) A2 c2 g stj wx.drew (HRA.out.kept hbx.drew) hcx (hKx.low (hbx.drew.mono afp)))
    have hst:=anc (KX hx stj)
    have jM:=anc dN
    have vH:=anc hbx
    have HSX:=anc hsx
    have Yy:=anc ((hbx.block w2.heap.size acs).trans acr.out)
    obtain ⟨⟨n0,n1,n2,n3,n4⟩,_,_,_,_,_⟩:=ay hnx
    obtain ⟨d0,d1,d2,d3,d4,d5,d6,d7,f0,f1,f2,f3,f4,f5,f6,f7⟩:=az Yy.out
    generalize hq:aX x stj=q at *
    clear dN hbx hnx hsx hx hKx hcx hq Zm
    obtain ⟨xk,xs,xn,xl,xa⟩:=x
    simp only [T.val,T.k,T.s,T.n,T.kids,T.at_] at m0 m1 m2 m3 m4 jq jM n0 n1 n2 n3 n4
    generalize xl.length=xm at *
    have afq:w2.heap.size<wx.heap.size:=anp acs vH.out.size
    have afr:w2.heap.size≠g:=Nat.ne_of_gt oI
    have afs:g<wc.heap.size:=Nat.lt_of_le_of_lt zB Ji
    have KJ:j≤600:=ae9 hlt2 hkn
    have YY:Hid (v.ownBlock≠some w2.heap.size):=anc (fun e=>by have:=(HOWN.out.lt _ e).1;omega)
    go_upto_region 35 with (fail)
    rw [←jM.out]
    go_region_law (first
     | (refine step_append_lies _ rfl _ _ _ rfl wc.heap.size 27 i0 _ 8 168 Tryz.underlying25 hi hz0 hz1 hz2 rfl (by decide) _ _ _ rfl (Kw.out.alloc _) ⟨w3.heap.size,0,none⟩ 1 1 (QP.cs (q.1,aq)) rfl rfl (World.news_of_block (anm w3 _)) (by rw [←yR];exact Lc _) (by decide) (Ot KJ) (Jj KJ) (anv hcw3 (aG w3 _ _).size) _ rfl ?_;intro g' cap w5 hown5 hgrow hat yU
        have fV:=anc hown5
        have qx:Hid (w3.grownBy w5 v.ownBlock):=anc ((World.grownBy_alloc _ _ _).trans hgrow)
        have gY:Hid ((Value.slice (some ⟨g',0,none⟩) (j+1) cap).ownBlock=v.ownBlock∨∃ n,(Value.slice (some ⟨g',0,none⟩) (j+1) cap).ownBlock=some n∧w3.heap.size≤n):=anc (hat.imp (fun h=>h.symm) fun h=>⟨g',rfl,by rw [h];simp⟩)
        have Lj:=anc ((qx.out.block w2.heap.size aft (fun e=>YY.out e.symm)).trans IM.out)
        obtain ⟨d0,d1,d2,d3,d4,d5,d6,d7,f0,f1,f2,f3,f4,f5,f6,f7⟩:=az Lj.out
        clear hown5 hgrow hat)
     | (go_simp;go_at_call 30;refine (jq.out).mono ?_;rintro e w3 ⟨⟨aq,rfl,hX⟩,hod,hr3⟩
        simp only [P.val]
        have mP:=anc hX
        have xY:=anc hod.yO
        have HR3:=anc hr3
        have Kw:=anc (rM (own_below HOWN.out vH.out) xY.out afs)
        have hcw3:wc.heap.size≤w3.heap.size:=anv (anv Be vH.out.size) xY.out.size
        have aft:w2.heap.size<w3.heap.size:=anp Ji hcw3
        have IM:=anc ((xY.out.block w2.heap.size afq afr).trans Yy.out)
        have g3:w3.cell? ⟨w2.heap.size,7,none⟩=some v:=(az IM.out).c7
        have Ro:(w3.alloc (.cells #[.int .i64 q.1.k,.string q.1.nm,.slice aq.ea q.1.ex.length aq.ec,.slice aq.ca q.1.cols.length aq.cc,.slice aq.la q.1.left.length aq.lc,.slice aq.ra q.1.right.length aq.rc,.slice aq.ga q.1.ag.length aq.gc,.slice aq.ka q.1.kids.length aq.kc] 27)).cell? ⟨w2.heap.size,7,none⟩=some v:=(World.cell?_alloc_some _ _ _ (by rw [g3];rfl)).trans g3
        clear hX hod hr3))
    all_goals
     go_wp2_with fail
     go_roundw
     case measure=>exact Bg hlt2
     case rel=>exact Qe hlt2 jI.out Ji oI (ank _) HOWN.out Zp.out HO.out HOLD.out Be HZ.out hst.out vH.out xY.out HR3.out mP.out qx.out fV.out gY.out Lj.out
   ·have hke:=anc (TG jh.out Zo.out HD.out hj hlt2 HZ.out)
    have hO:wr.ownsRow wc.heap.size 27 8 v ps.length (kM ps):=by rw [jI.out];exact HOWN.out
    obtain ⟨A9,c9,rfl,Gp,wG⟩:=EM hO (by rw [jI.out];exact aci (anv hj (ank _)) hkn) (S:=fun k=>wc.heap.size≤k∧k<wr.heap.size) (fun g u1 u2=>⟨u1,u2⟩) (fun p hp=>(Zp.out p hp).mono fun k hk=>⟨hk.1,hk.2.1⟩)
    have EE:=anc wG
    have HTr:=anc ((HO.out.block (w.heap.size+1) aco (Nat.ne_of_gt (Nat.lt_succ_of_lt hlt))).trans HT2.out)
    obtain ⟨d0,d1,d2,d3,d4,d5,d6,d7,f0,f1,f2,f3,f4,f5,f6,f7⟩:=az acr.out
    obtain ⟨t0,t1,t2,t3,t4,t5,t6,t7,g0,g1,g2,g3,g4,g5,g6,g7⟩:=az HTr.out
    clear hO wG
    go_wp2_with fail
    refine ano (mi rfl rfl (di HTr.out)) rfl ?_
    rw [hke.out]
    exact TI (c9:=c9) hlt aco (ank _) Ji Be ((aF HB1.out).bel HB2.out) HO.out HOLD.out Zn.out HRA.out EE.out (by rw [Oq,List.length_map])
theorem TN:∀ t,Me t:=T.ind Qg
theorem Ou {t:T} (h:AL t):eU t=era t:=by
 induction h with
 | atom w a h0 h=>simp [eU,era,AO]
 | num n a h1 h2=>simp [eU,era,AO]
 | str w a h=>simp [eU,era,AO]
 | node l a h ih =>
   unfold eU
   rw [if_neg (by decide),if_neg (by decide),if_neg (by decide),era,Fj,ja]
   congr 1
   exact List.map_congr_left ih
theorem GL {t:T} (h:AL t):AL (era t):=by
 induction h with
 | atom w a h0 h=>rw [era,AO];exact .atom w 0 h0 h
 | num n a h1 h2=>rw [era,AO];exact .num n 0 h1 h2
 | str w a h=>rw [era,AO];exact .str w 0 h
 | node l a h ih =>
   rw [era,ja]
   refine .node _ 0 fun e he=>?_
   obtain ⟨x,hx,rfl⟩:=List.mem_map.1 he
   exact ih x hx
theorem Ov:∀ (l:List T),(∀ t∈l,dH (era t)=dH t)→gp (l.map era)=gp l
 | [],_=>rfl
 | x::l,h=>by
   rw [List.map_cons,gp,gp,h x List.mem_cons_self,Ov l fun t ht=>h t (List.mem_cons_of_mem _ ht)]
theorem WA:∀ t:T,dH (era t)=dH t:=T.ind fun k s n l a ih=>by
 rw [era,ja,dH,dH,Ov l ih]
theorem Fz:∀ (l:List T),(∀ t∈l,iI (era t)=iI t)→iq (l.map era)=iq l
 | [],_=>rfl
 | x::l,h=>by
   rw [List.map_cons,iq,iq,h x List.mem_cons_self,Fz l fun t ht=>h t (List.mem_cons_of_mem _ ht)]
theorem Qh:∀ t:T,iI (era t)=iI t:=T.ind fun k s n l a ih=>by
 rw [era,ja,iI,iI,Fz l ih]
theorem WB:∀ t:T,era (era t)=era t:=T.ind fun k s n l a ih=>by
 rw [era,ja,era,ja,List.map_map]
 congr 1
 exact List.map_congr_left ih
theorem CO {t:T} (h:AL t):1≤dF t:=by
 cases h with
 | atom w a h0 h =>
   have:w.size≠0:=fun e=>h0 (List.eq_nil_of_length_eq_zero (by simp only [Array.length_toList];exact e))
   simp only [dF,dI]
   rw [if_pos trivial]
   omega
 | num n a h1 h2=>simp only [dF];rw [if_neg (by decide)];omega
 | str w a h=>simp only [dF];rw [if_neg (by decide)];omega
 | node l a h=>simp only [dF];rw [if_neg (by decide)];omega
theorem Jk {l:List T} {t:T} (h:t∈l):dF t≤dI l:=by
 induction l with
 | nil=>cases h
 | cons x l ih =>
   rw [dI]
   rcases List.mem_cons.1 h with rfl | h
   ·omega
   ·have:=ih h;omega
theorem CP:∀ {l:List T},(∀ t∈l,AL t)→l.length≤dI l
 | [],_=>Nat.zero_le _
 | x::l,h=>by
   have h1:=CO (h x List.mem_cons_self)
   have h2:=CP (l:=l) fun t ht=>h t (List.mem_cons_of_mem _ ht)
   rw [dI,List.length_cons]
   omega
theorem zC (l:List T)(a:Int):dF (.mk 1 ⟨#[]⟩ 0 l a)=1+dI l:=by
 rw [dF,if_neg (by decide)]
 rfl
theorem zD {t:T} (h:AL t):dF t≤600→T.Small t:=by
 induction h with
 | atom w a h0 h=>exact fun _=>.mk _ _ _ _ _ (by simp) (fun e he=>by cases he)
 | num n a h1 h2=>exact fun _=>.mk _ _ _ _ _ (by simp) (fun e he=>by cases he)
 | str w a h=>exact fun _=>.mk _ _ _ _ _ (by simp) (fun e he=>by cases he)
 | node l a h ih =>
   intro hc
   rw [zC] at hc
   have:=CP h
   exact .mk _ _ _ _ _ (by omega) fun e he=>ih e he (by have:=Jk he;omega)
theorem TQ {n:Int} (h1:-9223372036854775808≤n)(h2:n≤9223372036854775807):(Lib.itoa n).length≤20:=by
 have hd:∀ (k u:Nat),u<10 ^ (k+1)→(Lib.decDigits u).length≤k+1:=by
  intro k
  induction k with
  | zero=>intro u hu;rw [Lib.decDigits,dif_pos (by simpa using hu)];simp
  | succ k ih =>
    intro u hu
    rw [Lib.decDigits]
    split
    ·simp
    ·rw [List.length_append,List.length_singleton]
     have:=ih (u / 10) (by rw [Nat.pow_succ] at hu;omega)
     omega
 unfold Lib.itoa
 split
 ·have:=hd 18 n.natAbs (by omega)
  rw [List.length_cons]
  omega
 ·have:=hd 18 n.toNat (by omega)
  omega
theorem FB:∀ (l:List T),(∀ t∈l,(dH t).length+1≤24*dF t)→(Lib.joinTail [32] (gp l)).length≤24*dI l
 | [],_=>by simp [gp,Lib.joinTail]
 | x::l,h=>by
   have h1:=h x List.mem_cons_self
   have h2:=FB l fun t ht=>h t (List.mem_cons_of_mem _ ht)
   have e:Lib.joinTail [32] (gp (x::l))=32::(dH x++Lib.joinTail [32] (gp l)):=by
    rw [gp]
    simp [Lib.joinTail]
   rw [e,List.length_cons,List.length_append,dI]
   omega
theorem FC (l:List T)(h:∀ t∈l,(dH t).length+1≤24*dF t):(Lib.join (gp l) [32]).length≤24*dI l:=by
 cases l with
 | nil=>simp [gp,Lib.join_nil]
 | cons x l =>
   have h1:=h x List.mem_cons_self
   have h2:=FB l fun t ht=>h t (List.mem_cons_of_mem _ ht)
   rw [gp,Lib.join_cons,List.length_append,dI]
   omega
theorem TR {t:T} (h:AL t):(dH t).length+1≤24*dF t:=by
 induction h with
 | atom w a h0 h =>
   have hp:=CO (.atom w a h0 h)
   have e:dH (.mk 2 w 0 [] a)=w.data.toList:=by unfold dH;rw [if_neg (by decide),if_pos rfl]
   have hc:dF (.mk 2 w 0 [] a)=w.size:=by simp only [dF,dI];rw [if_pos trivial];rfl
   have hl:w.data.toList.length=w.size:=by rw [Array.length_toList];rfl
   rw [e,hl]
   omega
 | num n a h1 h2 =>
   have e:dH (.mk 3 ⟨#[]⟩ n [] a)=Lib.itoa n:=by unfold dH;rw [if_neg (by decide),if_neg (by decide),if_pos rfl]
   have:=TQ h1 h2
   have hp:=CO (.num n a h1 h2)
   rw [e]
   omega
 | str w a h =>
   have hok:V.okB ⟨2,0,w⟩=true:=by
    unfold V.okB
    simp
    omega
   have e:dH (.mk 4 w 0 [] a)=34::w.data.toList.flatMap qB++[34]:=by
    unfold dH
    rw [if_neg (by decide),if_neg (by decide),if_neg (by decide),if_pos rfl]
    unfold pJ
    rw [if_pos hok]
    rfl
   have hc:dF (.mk 4 w 0 [] a)=w.size+1:=by simp only [dF,dI];rw [if_neg (by decide)]
   have hl:w.data.toList.length=w.size:=by rw [Array.length_toList];rfl
   have:=Ob w.data.toList
   rw [e,hc,List.length_append,List.length_cons,List.length_singleton]
   omega
 | node l a h ih =>
   have e:dH (.mk 1 ⟨#[]⟩ 0 l a)=40::(Lib.join (gp l) [32]++[41]):=by unfold dH;rw [if_pos rfl]
   have:=FC l ih
   rw [e,zC,List.length_cons,List.length_append,List.length_singleton]
   omega
theorem Ox {t:T} (h:AL t):dF t≤600→oM t:=by
 induction h with
 | atom w a h0 h=>exact fun _=>.mk _ _ _ _ _ (by decide) (by decide) (fun e=>absurd e (by decide)) (fun e=>absurd e (by decide))
 | num n a h1 h2=>exact fun _=>.mk _ _ _ _ _ h1 h2 (fun e=>absurd e (by decide)) (fun e=>absurd e (by decide))
 | str w a h=>exact fun _=>.mk _ _ _ _ _ (by decide) (by decide) (fun e=>absurd e (by decide)) (fun e=>absurd e (by decide))
 | node l a h ih =>
   intro hc
   rw [zC] at hc
   have h1:=CP h
   have h2:=FC l fun t ht=>TR (h t ht)
   exact .mk _ _ _ _ _ (by decide) (by decide) (fun _=>⟨by omega,by omega⟩) (fun _ e he=>ih e he (by have:=Jk he;omega))
theorem FD:∀ (l:List T),(∀ t∈l,dF (era t)=dF t)→dI (l.map era)=dI l
 | [],_=>rfl
 | x::l,h=>by
   rw [List.map_cons,dI,dI,h x List.mem_cons_self,FD l fun t ht=>h t (List.mem_cons_of_mem _ ht)]
theorem FH:∀ t:T,dF (era t)=dF t:=T.ind fun k s n l a ih=>by
 rw [era,ja,dF,dF,FD l ih]
theorem Qi {t x:T} (h:T.Small t)(hx:x∈t.kids):T.Small x:=by
 cases h with
 | mk k s n l a hl h=>exact h x hx
theorem MF:T.Small aH:=.mk _ _ _ _ _ (by simp) (fun e he=>by cases he)
theorem CQ {l:List T} (h:∀ e∈l,T.Small e)(i:Nat):T.Small (l.getD i aH):=by
 rw [List.getD_eq_getElem?_getD]
 cases hx:l[i]? with
 | none=>exact MF
 | some x=>exact h x (anq hx)
theorem TS {kd:Int} {l:List T} (hl:l.length≤600)(h:∀ e∈l,T.Small e) {ks:List P} (hk:ks.length≤600)(hf:∀ p∈ks,Cj p):Cj ((aT kd l).put ks):=by
 have hm:∀ i,(bT l i).length≤600:=fun i=>by unfold bT;rw [List.length_take,List.length_drop];omega
 have h1:=(CQ h 1).len
 have h2:=(CQ h 2).len
 unfold aT
 repeat' split
 all_goals
  simp only [P.put,P.k,P.nm,P.ex,P.cols,P.left,P.right,P.ag]
  refine .mk _ _ _ _ _ _ _ _ ?_ ?_ ?_ ?_ ?_ hk hf
 all_goals first
  | (simp;done)
  | (rw [List.length_map];first | exact hm _ | exact h1 | exact h2)
theorem FI:∀ (l:List T)(s:eY),(bM l 0 s).1.length=l.length
 | [],s=>by rw [bM];rfl
 | x::l,s=>by rw [bM];simp only [List.length_cons,FI l]
theorem FK:∀ (l:List T),(∀ t∈l,∀ s:eY,Cj (aX t s).1)→∀ (s:eY),∀ p∈(bM l 0 s).1,Cj p
 | [],_,s=>fun p hp=>by rw [bM] at hp;cases hp
 | x::l,h,s=>fun p hp=>by
   rw [bM] at hp
   rcases List.mem_cons.1 hp with rfl | hp
   ·exact h x List.mem_cons_self s
   ·exact FK l (fun t ht=>h t (List.mem_cons_of_mem _ ht)) _ p hp
theorem Jl:∀ t:T,T.Small t→∀ s:eY,Cj (aX t s).1:=T.ind fun k s n l a ih hs st=>by
 have hl:l.length≤600:=hs.len
 have hm:∀ e∈l,T.Small e:=fun e he=>Qi hs he
 rw [aX,jg]
 refine TS hl hm ?_ ?_
 ·rw [FI,List.length_drop];omega
 ·exact FK _ (fun t ht=>ih t (List.mem_of_mem_drop ht) (hm t (List.mem_of_mem_drop ht))) _
def qJ (p:P):ByteArray:=⟨(dH (aV p)).toArray⟩
def kX (s:ByteArray):P×Int×Int :=
 if 600<s.size then (bW,3,0)
 else if (bf s [] [] 0).2.1=0 then
  (if (aX (bf s [] [] 0).1 (0,0)).2.1=0 then (if 600<(qJ (aX (bf s [] [] 0).1 (0,0)).1).size then (bW,3,0) else ((aX (bf s [] [] 0).1 (0,0)).1,0,0))
   else (bW,(aX (bf s [] [] 0).1 (0,0)).2.1,(aX (bf s [] [] 0).1 (0,0)).2.2))
 else (bW,(bf s [] [] 0).2.1,(bf s [] [] 0).2.2)
structure nH (t:T)(p:P):Prop where
 ok:AL t
 plan:aX t (0,0)=(p,0,0)
 deep:iI t≤12
 cost:dF t≤600
theorem sF {t:T} {p:P} (h:nH t p):aV p=era t:=by
 have:=(gW t (0,0) (by rw [h.plan])).2.1
 rw [h.plan] at this
 rw [this,Ou h.ok]
theorem Jm {t:T} {p:P} (h:nH t p):Ai p:=by
 have:=(gW t (0,0) (by rw [h.plan])).2.2
 rw [h.plan] at this
 exact this
theorem MG {t:T} {p:P} (h:nH t p):Cj p:=by
 have:=Jl t (zD h.ok h.cost) (0,0)
 rw [h.plan] at this
 exact this
theorem MH {t:T} {p:P} (h:nH t p):oM (aV p):=by
 rw [sF h]
 exact Ox (GL h.ok) (by rw [FH];exact h.cost)
theorem Qj {t:T} {p:P} (h:nH t p):dH (aV p)=dH t:=by rw [sF h,WA]
theorem MI {t:T} {p:P} (h:nH t p)(hl:(qJ p).size≤600):kX (qJ p)=(p,0,0):=by
 have hr:=(LX (GL h.ok)).1 (by rw [Qh];exact h.deep)
 obtain ⟨t',ht',hr⟩:=hr
 rw [WB] at ht'
 have e:qJ p=⟨(dH (era t)).toArray⟩:=by unfold qJ;rw [sF h]
 have hp:=L9 (t:=t) (t':=t') (s:=(0,0)) (s':=(0,0)) (by rw [h.plan]) ht' rfl
 rw [h.plan] at hp
 simp only at hp
 have h1:bf (qJ p) [] [] 0=(t',0,0):=by rw [e];exact hr
 unfold kX
 rw [if_neg (by omega),h1]
 simp only
 rw [if_pos trivial,hp]
 simp only
 rw [if_pos trivial,if_neg (by omega)]
inductive T.Good:T→Prop
 | mk (k:Int)(s:ByteArray)(n:Int)(l:List T)(a:Int)(h1:-9223372036854775808≤n)(h2:n≤9223372036854775807)(h3:s.size≤600)(h4:k=4→s.size≤40)(hl:l.length≤600)(hk:∀ e∈l,T.Good e):T.Good (.mk k s n l a)
def T.Open (j:Nat)(t:T):Prop:=(-9223372036854775808≤t.n∧t.n≤9223372036854775807)∧t.s.size≤600∧(t.k=4→t.s.size≤40)∧t.kids.length≤j∧∀ e∈t.kids,T.Good e
theorem T.Open.good {j:Nat} {t:T} (h:t.Open j)(hj:j≤600):t.Good:=by
 obtain ⟨k,s,n,l,a⟩:=t
 obtain ⟨⟨h1,h2⟩,h3,h4,h5,h6⟩:=h
 exact .mk k s n l a h1 h2 h3 h4 (anv h5 hj) h6
theorem T.Open.more {j j':Nat} {t:T} (h:t.Open j)(hj:j≤j'):t.Open j':=⟨h.1,h.2.1,h.2.2.1,anv h.2.2.2.1 hj,h.2.2.2.2⟩
def jB:T:=.mk 0 ⟨#[]⟩ 0 [] 0
theorem CS (j:Nat):jB.Open j:=⟨⟨by decide,by decide⟩,by decide,by decide,Nat.zero_le _,fun e he=>by cases he⟩
theorem FM {wr w6:World} {b1 q g m cap g6 cap6 n1 m1 j i2:Nat} {e:TypeId} {ps qs:List TP} {tk tn ta:Int} {ts:ByteArray} {tl:List T} {A0:Option Addr} {c0:Nat} {x:TP}
 (hown:wr.ownsRow b1 e 5 (.slice (some ⟨g,0,none⟩) m cap) m (aO ps))(hpl:ps.length=m)(hpt:ps[m1]?=some ((.mk tk ts tn tl ta:T),A0,c0))
 (hxk:∀ p∈ps,p.1.Open j∧p.1.kids.length≤p.2.2∧ku wr (fun k=>b1≤k∧k<wr.heap.size∧k≠g) p.2.1 p.1.kids)(hB:Below wr.heap.size wr w6)
 (hqs:qs.map Prod.fst=tl)(hqk:∀ p∈qs,p.1.kids.length≤p.2.2∧ku wr (fun k=>b1≤k∧k<wr.heap.size∧k≠g) p.2.1 p.1.kids)
 (hxg:x.1.Good)(hx:x.1.kids.length≤x.2.2∧ku wr (fun k=>b1≤k∧k<wr.heap.size∧k≠g) x.2.1 x.1.kids)
 (hO6:w6.ownsRow q e 5 (.slice (some ⟨g6,0,none⟩) n1 cap6) n1 (aO qs++TP.cs x))(hq:wr.heap.size≤q)(hn1:n1=tl.length+1)(hn:n1≤600)(hj:j≤i2)(hi2:n1≤i2)(hb1:b1≤wr.heap.size) :
 (w6.setCell ⟨g,m1*5+3,none⟩ (.slice (some ⟨g6,0,none⟩) n1 cap6)).ownsRow b1 e 5 (.slice (some ⟨g,0,none⟩) m cap) m (aO (ps.set m1 ((.mk tk ts tn (tl++[x.1]) ta:T),some ⟨g6,0,none⟩,cap6))) ∧
 ∀ p∈ps.set m1 ((.mk tk ts tn (tl++[x.1]) ta:T),some ⟨g6,0,none⟩,cap6),p.1.Open i2∧p.1.kids.length≤p.2.2∧ku (w6.setCell ⟨g,m1*5+3,none⟩ (.slice (some ⟨g6,0,none⟩) n1 cap6)) (fun k=>b1≤k∧k<(w6.setCell ⟨g,m1*5+3,none⟩ (.slice (some ⟨g6,0,none⟩) n1 cap6)).heap.size∧k≠g) p.2.1 p.1.kids:=by
 have hs6:=hB.size
 have hs7:(w6.setCell ⟨g,m1*5+3,none⟩ (.slice (some ⟨g6,0,none⟩) n1 cap6)).heap.size=w6.heap.size:=by simp [World.setCell]
 have Qk:g<wr.heap.size:=(hown.lt g rfl).2
 have hlen:(tl++[x.1]).length=n1:=by simp [hn1]
 constructor
 ·have hw:w6.ownsRow b1 e 5 (.slice (some ⟨g,0,none⟩) m cap) m (aO ps):=by
   obtain ⟨h1,h2⟩:=hown
   refine ⟨h1,?_⟩
   rcases h2 with h2 | ⟨g',cap',cur,e1,hb,hg,r⟩
   ·exact .inl h2
   ·have hgg:g=g':=by injection e1 with e1;injection e1 with e1;injection e1
    subst hgg
    exact .inr ⟨g,cap',cur,e1,hb,(hB.block g Qk).trans hg,r⟩
  have:=Gg hw hpt (tl++[x.1]) (some ⟨g6,0,none⟩) cap6
  rw [hlen] at this
  exact this
 ·have hsame:∀ k,k<wr.heap.size→k≠g→(w6.setCell ⟨g,m1*5+3,none⟩ (.slice (some ⟨g6,0,none⟩) n1 cap6)).heap[k]?=wr.heap[k]?:=fun k h1 h2=>(ann w6 ⟨g,m1*5+3,none⟩ _ k h2).trans (hB.block k h1)
  have keep:∀ {A:Option Addr} {l:List T},ku wr (fun k=>b1≤k∧k<wr.heap.size∧k≠g) A l→ku (w6.setCell ⟨g,m1*5+3,none⟩ (.slice (some ⟨g6,0,none⟩) n1 cap6)) (fun k=>b1≤k∧k<(w6.setCell ⟨g,m1*5+3,none⟩ (.slice (some ⟨g6,0,none⟩) n1 cap6)).heap.size∧k≠g) A l:=fun h =>
   (h.kept fun k hk=>hsame k hk.2.1 hk.2.2).mono fun k hk=>⟨hk.1,by rw [hs7];have:=hk.2.1;omega,hk.2.2⟩
  intro p hp
  rcases List.mem_or_eq_of_mem_set hp with hp | rfl
  ·obtain ⟨q1,q2,q3⟩:=hxk p hp
   exact ⟨q1.more hj,q2,keep q3⟩
  ·obtain ⟨⟨o1,o2,o3,o4,o5⟩,_,_⟩:=hxk _ (anq hpt)
   have hql:(qs++[x]).length=n1:=by
    have e1:(qs.map Prod.fst).length=qs.length:=List.length_map _
    rw [hqs] at e1
    rw [List.length_append,←e1,hn1]
    rfl
   have hO7:w6.ownsRow q e 5 (.slice (some ⟨g6,0,none⟩) n1 cap6) (qs++[x]).length (aO (qs++[x])):=by rw [hql,fZ,bD];exact hO6
   obtain ⟨A,c,hv,hc,hX⟩:=oV hO7 (by omega) (S:=fun k=>b1≤k∧k<w6.heap.size∧k≠g) (fun k h1 h2=>⟨by omega,h2,by omega⟩) (fun y hy=>by
    rcases List.mem_append.1 hy with hy | hy
    ·exact ⟨(hqk y hy).1,((hqk y hy).2.kept fun k hk=>hB.block k hk.2.1).mono fun k hk=>⟨hk.1,by have:=hk.2.1;omega,hk.2.2⟩⟩
    ·obtain rfl:y=x:=by simpa using hy
     exact ⟨hx.1,(hx.2.kept fun k hk=>hB.block k hk.2.1).mono fun k hk=>⟨hk.1,by have:=hk.2.1;omega,hk.2.2⟩⟩)
   have hmap:(qs++[x]).map Prod.fst=tl++[x.1]:=by rw [List.map_append,hqs];rfl
   rw [hmap] at hv hc hX
   injection hv with hA _ hcc
   subst hA hcc
   refine ⟨⟨o1,o2,o3,?_,fun y hy=>?_⟩,hc,(hX.kept fun k hk=>ann w6 ⟨g,m1*5+3,none⟩ _ k hk.2.2).mono fun k hk=>⟨hk.1,by rw [hs7];exact hk.2.1,hk.2.2⟩⟩
   ·show (tl++[x.1]).length≤i2
    omega
   ·rcases List.mem_append.1 hy with hy | hy
    ·exact o5 y hy
    ·obtain rfl:y=x.1:=by simpa using hy
     exact hxg
end Go.Proofs.YtjhkihkiebnpaaaGreatDoor
