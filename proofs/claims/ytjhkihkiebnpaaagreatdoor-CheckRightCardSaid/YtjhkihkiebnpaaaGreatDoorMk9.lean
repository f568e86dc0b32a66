/-
  Package plan's Same of one and the same plan: it says so. (slices.Equal, slices.EqualFunc, sameExpr.)
-/
import Derived.Test.YtjhkihkiebnpaaaGreatDoorMk2
import Derived.BigQuiet
import Derived.Laws.StructEq
import Derived.Deep.DeepCutAuto
import Derived.Test.YtjhkihkiebnpaaaGreatDoorMk8
import Derived.Test.YtjhkihkiebnpaaaGreatDoorMk1
import Derived.Test.YtjhkihkiebnpaaaGreatDoorMk0
import Derived.ScopeJumps
import Derived.WalkMore
set_option linter.unusedVariables false
set_option linter.unusedSimpArgs false
set_option maxRecDepth 100000
set_option maxHeartbeats 40000000
namespace Go.Proofs.YtjhkihkiebnpaaaGreatDoor
open Go.RowKit
theorem gu {α:Type} {l:List α} {j n:Nat} (h:n=l.length)(hj:j<n):∃ x,l[j]?=some x:=⟨_,anr (by omega)⟩
theorem Bi {w:World} {S:Nat→Prop} {A:Option Addr} {l:List ByteArray} (h:Lies w S A (strs l)) {j:Nat} {x:ByteArray} (hx:l[j]?=some x):∃ b o,A=some ⟨b,o,none⟩∧S b∧w.cell? ⟨b,o+j,none⟩=some (.string x):=by
 rcases h with h | ⟨b,o,hA,hb,hc⟩
 ·have:l=[]:=by simpa [strs] using h
  subst this
  simp at hx
 ·exact ⟨b,o,hA,hb,hc j _ (by rw [strs,List.getElem?_map,hx];rfl)⟩
theorem mD {j n:Nat} (h:j<n):n-(intOf (Value.int .i64 ((j:Int)+1))).toNat<n-(intOf (Value.int .i64 (j:Int))).toNat:=by
 simp [intOf];omega
abbrev LT (w:World):Nat→Prop:=fun k=>k<w.heap.size
theorem vX (l:List ByteArray)(hn:l.length≤9223372036854775807)(A B:Option Addr)(c d:Nat)(w:World)(hA:Lies w (LT w) A (strs l))(hB:Lies w (LT w) B (strs l)) :
 Calls Tryz.prog 73 #[.slice A l.length c,.slice B l.length d] w fun e w'=>e=.returned (.bool true)∧Below w.heap.size w w':=by
 have HA:=anc hA
 have HB:=anc hB
 obtain ⟨m,em⟩:∃ m,m=l.length:=⟨_,rfl⟩
 have wF:=anc em
 rw [←em] at hn ⊢
 clear hA hB em
 go_enter Tryz.func73,Tryz.ntmps73
 go_wp2_with fail
 go_loopw [13] (fun i wr=>∃ j:Nat,j≤m∧i=.int .i64 j∧Below w.heap.size w wr) (fun i _=>m-(intOf i).toNat)
 case atStart=>exact ⟨0,Nat.zero_le _,rfl,anl _ _⟩
 case round =>
  obtain ⟨j,hj,rfl,hb⟩:=hrel
  by_cases hlt:j<m
  ·obtain ⟨x,hx⟩:=gu wF.out hlt
   obtain ⟨b,o,rfl,h1,c1⟩:=Bi HA.out hx
   obtain ⟨b2,o2,rfl,h2,c2⟩:=Bi HB.out hx
   have c1':=(hb.cell (p:=⟨b,o+j,none⟩) h1).trans c1
   have c2':=(hb.cell (p:=⟨b2,o2+j,none⟩) h2).trans c2
   have lW:=anc hb
   clear c1 c2 hx hb
   go_upto_region 6 with (fail)
   go_quiet (fail)
   go_wp2_with fail
   go_roundw
   case measure=>exact mD hlt
   case rel=>exact ⟨j+1,hlt,by simp,below_drewN lW.out _⟩
  ·have lW:=anc hb
   go_wp2_with fail
   go_ret
   exact ⟨rfl,lW.out⟩
theorem yj {w:World} {S:Nat→Prop} {A:Option Addr} {l:List Ag} (h:Lies w S A (fB l)) {j:Nat} {x:Ag} (hx:l[j]?=some x) :
 ∃ b o,A=some ⟨b,o,none⟩∧S b∧w.cell? ⟨b,o+j*3,none⟩=some (.string x.nm)∧w.cell? ⟨b,o+j*3+1,none⟩=some (.string x.fn)∧w.cell? ⟨b,o+j*3+2,none⟩=some (.string x.vw):=by
 rcases h with h | ⟨b,o,hA,hb,hc⟩
 ·have:=EL l
  rw [h] at this
  have hl:l=[]:=List.eq_nil_of_length_eq_zero (by simp at this;omega)
  subst hl
  simp at hx
 ·have hg:∀ t u,(Ag.cs x)[t]?=some u→(fB l)[j*3+t]?=some u:=by
   intro t u hu
   have ht:t<3:=by have:=(List.getElem?_eq_some_iff.1 hu).1;exact this
   clear hc hA
   induction l generalizing j with
   | nil=>simp at hx
   | cons y l ih =>
     have e:fB (y::l)=Ag.cs y++fB l:=rfl
     rw [e]
     cases j with
     | zero =>
       obtain rfl:y=x:=by simpa using hx
       rw [Nat.zero_mul,Nat.zero_add,List.getElem?_append_left (by show t<3;omega)]
       exact hu
     | succ i =>
       rw [List.getElem?_append_right (by show 3≤_;omega),show (Ag.cs y).length=3 from rfl,show (i+1)*3+t-3=i*3+t by omega]
       exact ih (by simpa using hx)
  exact ⟨b,o,hA,hb,hc _ _ (hg 0 _ rfl),hc _ _ (hg 1 _ rfl),hc _ _ (hg 2 _ rfl)⟩
@[go_sem] theorem abl (op:BinOp)(x y:Operand)(xs ys:Array Value)(w:World):(eqGuard op 46 x y (.agg xs) (.agg ys)).run Tryz.prog w=.ok () w:=run_eqGuard_agg w op _ x y xs ys (by kernel_rfl)
theorem WZ (xn xf xc:ByteArray)(w:World) :
 (binOp .neq 46 (.agg #[.string xn,.string xf,.string xc]) (.agg #[.string xn,.string xf,.string xc])).run Tryz.prog w=.ok (.bool false) w:=by
 have hS:Tryz.prog.underlying 46=some (.struct (Tryz.prog.fieldsOf 46)):=by kernel_rfl
 have hp:Tryz.prog.stoodInHeld 46=false:=by kernel_rfl
 have u3:=Tryz.underlying9
 rw [run_neq_struct,show (10000:Nat)=9999+1 from rfl,run_equalIn_agg w 9999 _ _ _ hS hp]
 simp only [Program.fieldsOf,Tryz.underlying46]
 go_simp
theorem W9 (l:List Ag)(hn:l.length≤9223372036854775807)(A B:Option Addr)(c d:Nat)(w:World)(hA:Lies w (LT w) A (fB l))(hB:Lies w (LT w) B (fB l)) :
 Calls Tryz.prog 74 #[.slice A l.length c,.slice B l.length d] w fun e w'=>e=.returned (.bool true)∧Below w.heap.size w w':=by
 have HA:=anc hA
 have HB:=anc hB
 obtain ⟨m,em⟩:∃ m,m=l.length:=⟨_,rfl⟩
 have wF:=anc em
 rw [←em] at hn ⊢
 clear hA hB em
 go_enter Tryz.func74,Tryz.ntmps74
 go_wp2_with fail
 go_loopw [13] (fun i wr=>∃ j:Nat,j≤m∧i=.int .i64 j∧Below w.heap.size w wr) (fun i _=>m-(intOf i).toNat)
 case atStart=>exact ⟨0,Nat.zero_le _,rfl,anl _ _⟩
 case round =>
  obtain ⟨j,hj,rfl,hb⟩:=hrel
  by_cases hlt:j<m
  ·obtain ⟨x,hx⟩:=gu wF.out hlt
   obtain ⟨b,o,rfl,h1,a0,a1,a2⟩:=yj HA.out hx
   obtain ⟨b2,o2,rfl,h2,b0,b1,b2'⟩:=yj HB.out hx
   have c0:=(hb.cell (p:=⟨b,o+j*3,none⟩) h1).trans a0
   have c1:=(hb.cell (p:=⟨b,o+j*3+1,none⟩) h1).trans a1
   have c2:=(hb.cell (p:=⟨b,o+j*3+2,none⟩) h1).trans a2
   have d0:=(hb.cell (p:=⟨b2,o2+j*3,none⟩) h2).trans b0
   have d1:=(hb.cell (p:=⟨b2,o2+j*3+1,none⟩) h2).trans b1
   have d2:=(hb.cell (p:=⟨b2,o2+j*3+2,none⟩) h2).trans b2'
   have lW:=anc hb
   obtain ⟨an,af,ac⟩:=x
   have hq:=fun w=>WZ an af ac w
   clear a0 a1 a2 b0 b1 b2' hx hb
   go_upto_region 6 with (fail)
   go_quiet (fail)
   go_wp2_with fail
   go_roundw
   case measure=>exact mD hlt
   case rel=>exact ⟨j+1,hlt,by simp,below_drewN lW.out _⟩
  ·have lW:=anc hb
   go_wp2_with fail
   go_ret
   exact ⟨rfl,lW.out⟩
def OG (e:E):Prop:=∀ (A B:Option Addr)(c d:Nat)(w:World),eQ w w.heap.size A e.kids→eQ w w.heap.size B e.kids→Calls Tryz.prog 72 #[e.val A c,e.val B d] w fun r w'=>r=.returned (.bool true)∧Below w.heap.size w w'
theorem FV (l:List E)(hM:∀ e∈l,OG e)(A B:Option Addr)(c d:Nat)(w:World)(hA:eQ w w.heap.size A l)(hB:eQ w w.heap.size B l) :
 Calls Tryz.prog 71 #[.slice A l.length c,.slice B l.length d,.func (.func 72) #[] #[]] w fun e w'=>e=.returned (.bool true)∧Below w.heap.size w w':=by
 have hn:=hA.len
 have HA:=anc hA.cu
 have HB:=anc hB.cu
 have HM:=anc hM
 obtain ⟨m,em⟩:∃ m,m=l.length:=⟨_,rfl⟩
 have wF:=anc em
 rw [←em] at hn ⊢
 clear hA hB em hM
 go_enter Tryz.func71,Tryz.ntmps71
 go_wp2_with fail
 go_loopw [17] (fun i wr=>∃ j:Nat,j≤m∧i=.int .i64 j∧Below w.heap.size w wr) (fun i _=>m-(intOf i).toNat)
 case atStart=>exact ⟨0,Nat.zero_le _,rfl,anl _ _⟩
 case round =>
  obtain ⟨j,hj,rfl,hb⟩:=hrel
  by_cases hlt:j<m
  ·obtain ⟨x,hx⟩:=gu wF.out hlt
   obtain ⟨b,o,A',c',rfl,hb1,a0,a1,a2,a3,hKa⟩:=HA.out _ hb j x hx
   obtain ⟨wx,dN⟩:∃ wx,wx=wr.alloc (.cells #[.int .i64 x.k,.string x.s,.int .i64 x.n,.slice A' x.kids.length c'] 38):=⟨_,rfl⟩
   have hbx:Below wr.heap.size wr wx:=by rw [dN];exact (anl _ _).alloc (ank _) _
   have hnx:wx.heap[wr.heap.size]?=some (.cells #[.int .i64 x.k,.string x.s,.int .i64 x.n,.slice A' x.kids.length c'] 38 (0,0)):=by rw [dN];exact anm wr _
   have hbw:Below w.heap.size w wx:=hb.trans (hbx.mono hb.size)
   obtain ⟨b2,o2,B',d',rfl,hb2,b0,b1,b2',b3,hKb⟩:=HB.out _ hbw j x hx
   obtain ⟨wy,yH⟩:∃ wy,wy=wx.alloc (.cells #[.int .i64 x.k,.string x.s,.int .i64 x.n,.slice B' x.kids.length d'] 38):=⟨_,rfl⟩
   have hby:Below wx.heap.size wx wy:=by rw [yH];exact (anl _ _).alloc (ank _) _
   have hny:wy.heap[wx.heap.size]?=some (.cells #[.int .i64 x.k,.string x.s,.int .i64 x.n,.slice B' x.kids.length d'] 38 (0,0)):=by rw [yH];exact anm wx _
   have hnx2:=(hby.block _ (Array.getElem?_eq_some_iff.1 hnx).1).trans hnx
   have BV:=anc (hbw.trans (hby.mono hbw.size))
   have jq:=anc (HM.out x (anq hx) A' B' c' d' wy ((hKa.low (hbx.trans (hby.mono hbx.size))).more (hbx.trans (hby.mono hbx.size)).size) ((hKb.low hby).more hby.size))
   have jM:=anc dN
   have Qc:=anc yH
   clear dN yH hbx hby hbw hnx hx hKa hKb
   obtain ⟨xk,xs,xn,xl⟩:=x
   simp only [E.val,E.k,E.s,E.n,E.kids] at a0 a1 a2 a3 b0 b1 b2' b3 jq jM Qc hnx2 hny
   generalize xl.length=xm at *
   obtain ⟨⟨e0,e1,e2,e3⟩,_,_,_,_⟩:=bQ hnx2
   obtain ⟨⟨f0,f1,f2,f3⟩,_,_,_,_⟩:=bQ hny
   go_upto_region 6 with (fail)
   rw [←jM.out]
   go_upto_region 7 with (fail)
   rw [←Qc.out]
   go_wp2_with fail
   refine (jq.out).mono ?_
   rintro e w3 ⟨rfl,hb3⟩
   have HB3:=anc (BV.out.trans (hb3.mono BV.out.size))
   clear hb3
   go_wp2_with fail
   go_roundw
   case measure=>exact mD hlt
   case rel=>exact ⟨j+1,hlt,by simp,HB3.out⟩
  ·have lW:=anc hb
   go_wp2_with fail
   go_ret
   exact ⟨rfl,lW.out⟩
theorem MZ (k:Int)(s:ByteArray)(n:Int)(l:List E)(hM:∀ e∈l,OG e):OG (.mk k s n l):=by
 intro A B c d w hA hB
 simp only [E.val,E.k,E.s,E.n,E.kids] at hA hB ⊢
 obtain ⟨w1,aK⟩:∃ w1,w1=(w.alloc (.cells #[.int .i64 k,.string s,.int .i64 n,.slice A l.length c] 38)).alloc (.cells #[.int .i64 k,.string s,.int .i64 n,.slice B l.length d] 38):=⟨_,rfl⟩
 have hb1:Below w.heap.size w w1:=by rw [aK];exact ((anl _ _).alloc (ank _) _).alloc (by simp) _
 have HC:=anc (FV l hM A B c d w1 ((hA.low hb1).more hb1.size) ((hB.low hb1).more hb1.size))
 have HB1:=anc hb1
 have hx1:w1.heap[w.heap.size]?=some (.cells #[.int .i64 k,.string s,.int .i64 n,.slice A l.length c] 38 (0,0)):=by
  rw [aK]
  exact (ant _ _ _ (by simp)).trans (anm w _)
 have hx2:w1.heap[w.heap.size+1]?=some (.cells #[.int .i64 k,.string s,.int .i64 n,.slice B l.length d] 38 (0,0)):=by
  rw [aK]
  have:=anm (w.alloc (.cells #[.int .i64 k,.string s,.int .i64 n,.slice A l.length c] 38)) (.cells #[.int .i64 k,.string s,.int .i64 n,.slice B l.length d] 38)
  simpa using this
 have HW1:=anc aK
 generalize l.length=m at *
 clear hA hB hM aK hb1
 obtain ⟨⟨e0,e1,e2,e3⟩,_,_,_,_⟩:=bQ hx1
 obtain ⟨⟨f0,f1,f2,f3⟩,_,_,_,_⟩:=bQ hx2
 go_enter Tryz.func72,Tryz.ntmps72
 go_upto_region 1 with (fail)
 rw [←HW1.out]
 go_wp2_with fail
 refine (HC.out).mono ?_
 rintro e w3 ⟨rfl,hb3⟩
 have HB3:=anc (HB1.out.trans (hb3.mono HB1.out.size))
 clear hb3
 go_wp2_with fail
 go_ret
 exact ⟨rfl,HB3.out⟩
theorem QD:∀ e,OG e:=E.ind MZ
theorem jS.low {w w':World} {p:P} {a:PA} (h:jS w (LT w) p a)(hb:Below w.heap.size w w'):jS w' (LT w') p a:=(h.kept fun k hk=>hb.block k hk).mono fun k hk=>anp hk hb.size
def G5 (p:P):Prop:=∀ (a b:PA)(w:World),jS w (LT w) p a→jS w (LT w) p b→Calls Tryz.prog 35 #[p.val a,p.val b] w fun r w'=>r=.returned (.bool true)∧Below w.heap.size w w'
theorem yQ.cu {w wr:World} {A:Option Addr} {l:List P} (h:yQ w (LT w) A l)(hb:Below w.heap.size w wr) {j:Nat} {x:P} (hx:l[j]?=some x) :
 ∃ b o a,A=some ⟨b,o,none⟩∧b<w.heap.size∧(∀ i u,(x.cs a)[i]?=some u→wr.cell? ⟨b,o+j*8+i,none⟩=some u)∧jS wr (LT wr) x a:=by
 obtain ⟨b,o,a,e,hlt,hc,hp⟩:=h.at hx
 exact ⟨b,o,a,e,hlt,fun i u hu=>(hb.cell (p:=⟨b,o+j*8+i,none⟩) hlt).trans (hc i u hu),hp.low hb⟩
def P.bx (p:P)(a:PA):Array Value:=#[.int .i64 p.k,.string p.nm,.slice a.ea p.ex.length a.ec,.slice a.ca p.cols.length a.cc,.slice a.la p.left.length a.lc,.slice a.ra p.right.length a.rc,.slice a.ga p.ag.length a.gc,.slice a.ka p.kids.length a.kc]
theorem QE (l:List P)(hM:∀ e∈l,G5 e)(A B:Option Addr)(c d:Nat)(w:World)(hn:l.length≤9223372036854775807)(hA:yQ w (LT w) A l)(hB:yQ w (LT w) B l) :
 Calls Tryz.prog 75 #[.slice A l.length c,.slice B l.length d,.func (.func 35) #[] #[]] w fun e w'=>e=.returned (.bool true)∧Below w.heap.size w w':=by
 have HA:=anc hA
 have HB:=anc hB
 have HM:=anc hM
 obtain ⟨m,em⟩:∃ m,m=l.length:=⟨_,rfl⟩
 have wF:=anc em
 rw [←em] at hn ⊢
 clear hA hB em hM
 go_enter Tryz.func75,Tryz.ntmps75
 go_wp2_with fail
 go_loopw [17] (fun i wr=>∃ j:Nat,j≤m∧i=.int .i64 j∧Below w.heap.size w wr) (fun i _=>m-(intOf i).toNat)
 case atStart=>exact ⟨0,Nat.zero_le _,rfl,anl _ _⟩
 case round =>
  obtain ⟨j,hj,rfl,hb⟩:=hrel
  by_cases hlt:j<m
  ·obtain ⟨x,hx⟩:=gu wF.out hlt
   obtain ⟨b,o,a1,rfl,hb1,hc1,hp1⟩:=HA.out.cu hb hx
   have m0:=hc1 0 _ rfl
   have m1:=hc1 1 _ rfl
   have m2:=hc1 2 _ rfl
   have m3:=hc1 3 _ rfl
   have m4:=hc1 4 _ rfl
   have m5:=hc1 5 _ rfl
   have m6:=hc1 6 _ rfl
   have m7:=hc1 7 _ rfl
   rw [Nat.add_zero] at m0
   obtain ⟨wx,dN⟩:∃ wx,wx=wr.alloc (.cells #[.int .i64 x.k,.string x.nm,.slice a1.ea x.ex.length a1.ec,.slice a1.ca x.cols.length a1.cc,.slice a1.la x.left.length a1.lc,.slice a1.ra x.right.length a1.rc,.slice a1.ga x.ag.length a1.gc,.slice a1.ka x.kids.length a1.kc] 27):=⟨_,rfl⟩
   have hbx:Below wr.heap.size wr wx:=by rw [dN];exact (anl _ _).alloc (ank _) _
   have hnx:wx.heap[wr.heap.size]?=some (.cells #[.int .i64 x.k,.string x.nm,.slice a1.ea x.ex.length a1.ec,.slice a1.ca x.cols.length a1.cc,.slice a1.la x.left.length a1.lc,.slice a1.ra x.right.length a1.rc,.slice a1.ga x.ag.length a1.gc,.slice a1.ka x.kids.length a1.kc] 27 (0,0)):=by rw [dN];exact anm wr _
   have hbw:Below w.heap.size w wx:=hb.trans (hbx.mono hb.size)
   obtain ⟨b2,o2,a2,rfl,hb2,hc2,hp2⟩:=HB.out.cu hbw hx
   have k0:=hc2 0 _ rfl
   have k1:=hc2 1 _ rfl
   have k2:=hc2 2 _ rfl
   have k3:=hc2 3 _ rfl
   have k4:=hc2 4 _ rfl
   have k5:=hc2 5 _ rfl
   have k6:=hc2 6 _ rfl
   have k7:=hc2 7 _ rfl
   rw [Nat.add_zero] at k0
   obtain ⟨wy,yH⟩:∃ wy,wy=wx.alloc (.cells #[.int .i64 x.k,.string x.nm,.slice a2.ea x.ex.length a2.ec,.slice a2.ca x.cols.length a2.cc,.slice a2.la x.left.length a2.lc,.slice a2.ra x.right.length a2.rc,.slice a2.ga x.ag.length a2.gc,.slice a2.ka x.kids.length a2.kc] 27):=⟨_,rfl⟩
   have hby:Below wx.heap.size wx wy:=by rw [yH];exact (anl _ _).alloc (ank _) _
   have hny:wy.heap[wx.heap.size]?=some (.cells #[.int .i64 x.k,.string x.nm,.slice a2.ea x.ex.length a2.ec,.slice a2.ca x.cols.length a2.cc,.slice a2.la x.left.length a2.lc,.slice a2.ra x.right.length a2.rc,.slice a2.ga x.ag.length a2.gc,.slice a2.ka x.kids.length a2.kc] 27 (0,0)):=by rw [yH];exact anm wx _
   have hnx2:=(hby.block _ (Array.getElem?_eq_some_iff.1 hnx).1).trans hnx
   have BV:=anc (hbw.trans (hby.mono hbw.size))
   have hcl:=HM.out x (anq hx) a1 a2 wy (hp1.low (hbx.trans (hby.mono hbx.size))) (hp2.low hby)
   simp only [P.val] at hcl
   have jq:=anc hcl
   have jM:=anc dN
   have Qc:=anc yH
   clear dN yH hbx hby hbw hnx hx hc1 hc2 hp1 hp2 hcl
   generalize x.k=xk at *
   generalize x.nm=Kv at *
   generalize x.ex.length=x1 at *
   generalize x.cols.length=x2 at *
   generalize x.left.length=x3 at *
   generalize x.right.length=x4 at *
   generalize x.ag.length=x5 at *
   generalize x.kids.length=x6 at *
   obtain ⟨qa,qb,qc,qd,qe,qf,qg,qh,qi,qj,qk,ql⟩:=a1
   obtain ⟨ra,rb,rc,rd,re,rf,rg,rh,ri,rj,rk,rl⟩:=a2
   simp only at m0 m1 m2 m3 m4 m5 m6 m7 k0 k1 k2 k3 k4 k5 k6 k7 jq jM Qc hnx2 hny
   obtain ⟨z0,z1,z2,z3,z4,z5,z6,z7,_,_,_,_,_,_,_,_⟩:=az hnx2
   obtain ⟨y0,y1,y2,y3,y4,y5,y6,y7,_,_,_,_,_,_,_,_⟩:=az hny
   go_upto_region 6 with (fail)
   rw [←jM.out]
   go_upto_region 7 with (fail)
   rw [←Qc.out]
   go_wp2_with fail
   refine (jq.out).mono ?_
   rintro e w3 ⟨rfl,hb3⟩
   have HB3:=anc (BV.out.trans (hb3.mono BV.out.size))
   clear hb3
   go_wp2_with fail
   go_roundw
   case measure=>exact mD hlt
   case rel=>exact ⟨j+1,hlt,by simp,HB3.out⟩
  ·have lW:=anc hb
   go_wp2_with fail
   go_ret
   exact ⟨rfl,lW.out⟩
theorem JD (k:Int)(nm:ByteArray)(ex:List E)(cols left right:List ByteArray)(ag:List Ag)(kids:List P)(hM:∀ p∈kids,G5 p):G5 (.mk k nm ex cols left right ag kids):=by
 intro a b w hA hB
 obtain ⟨⟨hE,hC,TC,hR,hG,q1,q2,⟨q3,-⟩,⟨q4,-⟩,q5⟩,Ih⟩:=hA
 obtain ⟨⟨gE,gC,Zz,gR,gG,_,_,_,_,_⟩,YD⟩:=hB
 obtain ⟨ea,ec,ca,cc,la,lc,ra,rc,ga,gc,ka,kc⟩:=a
 obtain ⟨Xa,Xb,ca',cc',la',Xc,Xd,rc',ga',gc',Xe,Xf⟩:=b
 simp only [P.val,P.k,P.nm,P.ex,P.cols,P.left,P.right,P.ag,P.kids] at hE hC TC hR hG Ih gE gC Zz gR gG YD q1 q2 q3 q4 q5 ⊢
 have q6:=Ih.len
 obtain ⟨w1,aK⟩:∃ w1,w1=(w.alloc (.cells #[.int .i64 k,.string nm,.slice ea ex.length ec,.slice ca cols.length cc,.slice la left.length lc,.slice ra right.length rc,.slice ga ag.length gc,.slice ka kids.length kc] 27)).alloc (.cells #[.int .i64 k,.string nm,.slice Xa ex.length Xb,.slice ca' cols.length cc',.slice la' left.length Xc,.slice Xd right.length rc',.slice ga' ag.length gc',.slice Xe kids.length Xf] 27):=⟨_,rfl⟩
 have hb1:Below w.heap.size w w1:=by rw [aK];exact ((anl _ _).alloc (ank _) _).alloc (by simp) _
 have hs1:w1.heap.size=w.heap.size+2:=by rw [aK];simp
 have gU:Hid (w1.heap[w.heap.size]?=some (.cells #[.int .i64 k,.string nm,.slice ea ex.length ec,.slice ca cols.length cc,.slice la left.length lc,.slice ra right.length rc,.slice ga ag.length gc,.slice ka kids.length kc] 27 (0,0))):=anc (by
  rw [aK]
  exact (ant _ _ _ (by simp)).trans (anm w _))
 have dG:Hid (w1.heap[w.heap.size+1]?=some (.cells #[.int .i64 k,.string nm,.slice Xa ex.length Xb,.slice ca' cols.length cc',.slice la' left.length Xc,.slice Xd right.length rc',.slice ga' ag.length gc',.slice Xe kids.length Xf] 27 (0,0))):=anc (by
  rw [aK]
  have:=anm (w.alloc (.cells #[.int .i64 k,.string nm,.slice ea ex.length ec,.slice ca cols.length cc,.slice la left.length lc,.slice ra right.length rc,.slice ga ag.length gc,.slice ka kids.length kc] 27)) (.cells #[.int .i64 k,.string nm,.slice Xa ex.length Xb,.slice ca' cols.length cc',.slice la' left.length Xc,.slice Xd right.length rc',.slice ga' ag.length gc',.slice Xe kids.length Xf] 27)
  simpa using this)
 have hw:∀ w',Below w1.heap.size w1 w'→Below w.heap.size w w':=fun w' h=>hb1.trans (h.mono hb1.size)
 have hlo:∀ w',Below w1.heap.size w1 w'→∀ A vs,Lies w (LT w) A vs→Lies w' (LT w') A vs:=fun w' h A vs hl=>(hl.kept fun k hk=>(hw w' h).block k hk).mono fun k hk=>anp hk (hw w' h).size
 have H2:=anc (fun w' (h:Below w1.heap.size w1 w')=>FV ex (fun e _=>QD e) ea Xa ec Xb w' (((hE.to fun k h=>h).low (hw w' h)).more (hw w' h).size) (((gE.to fun k h=>h).low (hw w' h)).more (hw w' h).size))
 have H3:=anc (fun w' (h:Below w1.heap.size w1 w')=>vX cols q2 ca ca' cc cc' w' (hlo w' h _ _ hC) (hlo w' h _ _ gC))
 have H4:=anc (fun w' (h:Below w1.heap.size w1 w')=>vX left q3 la la' lc Xc w' (hlo w' h _ _ TC) (hlo w' h _ _ Zz))
 have H5:=anc (fun w' (h:Below w1.heap.size w1 w')=>vX right q4 ra Xd rc rc' w' (hlo w' h _ _ hR) (hlo w' h _ _ gR))
 have H6:=anc (fun w' (h:Below w1.heap.size w1 w')=>W9 ag q5 ga ga' gc gc' w' (hlo w' h _ _ hG) (hlo w' h _ _ gG))
 have H7:=anc (fun w' (h:Below w1.heap.size w1 w')=>QE kids hM ka Xe kc Xf w' q6 ((Ih.kept fun k hk=>(hw w' h).block k hk).mono fun k hk=>anp hk (hw w' h).size) ((YD.kept fun k hk=>(hw w' h).block k hk).mono fun k hk=>anp hk (hw w' h).size))
 have HB1:=anc hb1
 have HW1:=anc aK
 have hz1:w.heap.size<w1.heap.size:=by omega
 have hz2:w.heap.size+1<w1.heap.size:=by omega
 generalize ex.length=n1 at *
 generalize cols.length=n2 at *
 generalize left.length=n3 at *
 generalize right.length=n4 at *
 generalize ag.length=n5 at *
 generalize kids.length=n6 at *
 clear hE hC TC hR hG Ih gE gC Zz gR gG YD q1 q2 q3 q4 q5 q6 aK hb1 hs1 hw hlo hM
 obtain ⟨z0,z1,z2,z3,z4,z5,z6,z7,_,_,_,_,_,_,_,_⟩:=az gU.out
 obtain ⟨y0,y1,y2,y3,y4,y5,y6,y7,_,_,_,_,_,_,_,_⟩:=az dG.out
 go_enter Tryz.func35,Tryz.ntmps35
 go_upto_region 1 with (fail)
 rw [←HW1.out]
 go_wp2_with fail
 refine (H2.out w1 (anl _ _)).mono ?_
 rintro e w2 ⟨rfl,hb2⟩
 have B2:=anc hb2
 have C2:=anc ((hb2.block _ hz1).trans gU.out)
 have D2:=anc ((hb2.block _ hz2).trans dG.out)
 clear hb2 z0 z1 z2 z3 z4 z5 z6 z7 y0 y1 y2 y3 y4 y5 y6 y7
 obtain ⟨z0,z1,z2,z3,z4,z5,z6,z7,_,_,_,_,_,_,_,_⟩:=az C2.out
 obtain ⟨y0,y1,y2,y3,y4,y5,y6,y7,_,_,_,_,_,_,_,_⟩:=az D2.out
 go_wp2_with fail
 refine (H3.out w2 B2.out).mono ?_
 rintro e w3 ⟨rfl,hb2⟩
 have B3:=anc (B2.out.trans (hb2.mono B2.out.size))
 clear hb2 z0 z1 z2 z3 z4 z5 z6 z7 y0 y1 y2 y3 y4 y5 y6 y7
 obtain ⟨z0,z1,z2,z3,z4,z5,z6,z7,_,_,_,_,_,_,_,_⟩:=az ((B3.out.block _ hz1).trans gU.out)
 obtain ⟨y0,y1,y2,y3,y4,y5,y6,y7,_,_,_,_,_,_,_,_⟩:=az ((B3.out.block _ hz2).trans dG.out)
 go_wp2_with fail
 refine (H4.out w3 B3.out).mono ?_
 rintro e w4 ⟨rfl,hb2⟩
 have B4:=anc (B3.out.trans (hb2.mono B3.out.size))
 clear hb2 z0 z1 z2 z3 z4 z5 z6 z7 y0 y1 y2 y3 y4 y5 y6 y7
 obtain ⟨z0,z1,z2,z3,z4,z5,z6,z7,_,_,_,_,_,_,_,_⟩:=az ((B4.out.block _ hz1).trans gU.out)
 obtain ⟨y0,y1,y2,y3,y4,y5,y6,y7,_,_,_,_,_,_,_,_⟩:=az ((B4.out.block _ hz2).trans dG.out)
 go_wp2_with fail
 refine (H5.out w4 B4.out).mono ?_
 rintro e w5 ⟨rfl,hb2⟩
 have B5:=anc (B4.out.trans (hb2.mono B4.out.size))
 clear hb2 z0 z1 z2 z3 z4 z5 z6 z7 y0 y1 y2 y3 y4 y5 y6 y7
 obtain ⟨z0,z1,z2,z3,z4,z5,z6,z7,_,_,_,_,_,_,_,_⟩:=az ((B5.out.block _ hz1).trans gU.out)
 obtain ⟨y0,y1,y2,y3,y4,y5,y6,y7,_,_,_,_,_,_,_,_⟩:=az ((B5.out.block _ hz2).trans dG.out)
 go_wp2_with fail
 refine (H6.out w5 B5.out).mono ?_
 rintro e w6 ⟨rfl,hb2⟩
 have B6:=anc (B5.out.trans (hb2.mono B5.out.size))
 clear hb2 z0 z1 z2 z3 z4 z5 z6 z7 y0 y1 y2 y3 y4 y5 y6 y7
 obtain ⟨z0,z1,z2,z3,z4,z5,z6,z7,_,_,_,_,_,_,_,_⟩:=az ((B6.out.block _ hz1).trans gU.out)
 obtain ⟨y0,y1,y2,y3,y4,y5,y6,y7,_,_,_,_,_,_,_,_⟩:=az ((B6.out.block _ hz2).trans dG.out)
 go_wp2_with fail
 refine (H7.out w6 B6.out).mono ?_
 rintro e w7 ⟨rfl,hb2⟩
 have B7:=anc (HB1.out.trans ((B6.out.trans (hb2.mono B6.out.size)).mono HB1.out.size))
 clear hb2
 go_wp2_with fail
 go_ret
 exact ⟨rfl,B7.out⟩
theorem Na:∀ p,G5 p:=P.ind JD
def Nb (D:List DM)(p:P):Prop:=fH p→∀ (a:PA)(w:World),jS w (LT w) p a→∀ (B:Option Addr)(d:Nat),kS w (LT w) B D→Calls Tryz.prog 23 #[p.val a,.slice B D.length d] w fun e w'=>xe (fun k=>w.heap.size≤k∧k<w'.heap.size) (bZ D p) e w'∧Below w.heap.size w w'
theorem Xg {w:World} {base:Nat} {e:TypeId} {A:Option Addr} {j c:Nat} {us:List Value} (h:w.ownsRow base e 1 (.slice A j c) j us)(hj:0<j):∃ g,A=some ⟨g,0,none⟩∧base≤g∧g<w.heap.size∧∀ i u,us[i]?=some u→w.cell? ⟨g,i,none⟩=some u:=by
 have hlen:=h.1
 obtain ⟨_,hcase⟩:=id h
 rcases hcase with ⟨_,h0⟩ | ⟨g,cap,cur,e1,hg,hh,hn,hcap,hsz,htake⟩
 ·omega
 ·injection e1 with e2 e3 e4
  subst e2 e4
  refine ⟨g,rfl,hg,(Array.getElem?_eq_some_iff.1 hh).1,fun i u hu=>?_⟩
  have hi:i<us.length:=(List.getElem?_eq_some_iff.1 hu).1
  rw [h.cellAt _ (by omega)]
  exact hu
theorem Ul {D:List DM} {kids:List P} {i n:Nat} (hn:kids.length≤n)(hi:i<kids.length):∃ y,kids[i]?=some y∧((kids.take n).map (fun x=>(bZ D x).1))[i]?=some (uM (kids.map (bZ D)) i):=by
 refine ⟨kids[i],anr hi,?_⟩
 rw [List.take_of_length_le hn]
 unfold uM
 rw [List.getD_eq_getElem?_getD,List.getElem?_map,List.getElem?_map,anr hi]
 rfl
theorem JE {D:List DM} (hD:∀ d∈D,d.cols.length≤6)(kids:List P)(i:Nat):(uM (kids.map (bZ D)) i).length≤6:=by
 unfold uM
 rw [List.getD_eq_getElem?_getD,List.getElem?_map]
 cases h:kids[i]? with
 | none=>simp
 | some x=>exact JB hD x
theorem Um {D:List DM} {kids:List P} {j:Nat} {x:P} {ks:List (List C)} (hx:kids[j]?=some x)(hz:(bZ D x).2.1=0)(h:ks=(kids.take j).map (fun x=>(bZ D x).1)∧∀ i y,i<j→kids[i]?=some y→(bZ D y).2.1=0) :
 ks++[(bZ D x).1]=(kids.take (j+1)).map (fun x=>(bZ D x).1)∧∀ i y,i<j+1→kids[i]?=some y→(bZ D y).2.1=0:=by
 refine ⟨by rw [List.take_add_one,hx,List.map_append,h.1];rfl,fun i y hi hy=>?_⟩
 rcases Nat.lt_or_ge i j with h1 | h1
 ·exact h.2 i y h1 hy
 ·obtain rfl:i=j:=by omega
  rw [hx] at hy
  obtain rfl:=Option.some.inj hy
  exact hz
theorem OH {α:Type} {p:α→Bool}:∀ (l:List α)(k:Nat),¬idx p l k<0→∃ (i:Nat)(x:α),idx p l k=((k+i:Nat):Int)∧l[i]?=some x
 | [],k,h=>absurd (by unfold idx;decide) h
 | x::l,k,h=>by
   unfold idx at h ⊢
   cases hp:p x
   ·rw [hp] at h
    obtain ⟨i,y,h1,h2⟩:=OH l (k+1) (by simpa using h)
    exact ⟨i+1,y,by simp only [Bool.false_eq_true,if_false];rw [h1];congr 1;omega,h2⟩
   ·exact ⟨0,x,by simp,rfl⟩
theorem Un {w:World} {B:Nat} {e:TypeId} {A':Option Addr} {j c':Nat} {us:List Value} {ks:List (List C)} {D:List DM} {kids:List P} {Z:Nat→Prop} (hO:w.ownsRow B e 1 (.slice A' j c') j us)(hKA:OE w (fun g=>B≤g∧g<w.heap.size∧Z g) us ks)
 (hall:ks=(kids.take j).map (fun x=>(bZ D x).1))(hj:kids.length=j)(h0:0<j) :
 ∃ g,A'=some ⟨g,0,none⟩∧B≤g∧g<w.heap.size∧∀ i,i<j→∃ A0 c0,w.cell? ⟨g,i,none⟩=some (.slice A0 (uM (kids.map (bZ D)) i).length c0)∧(uM (kids.map (bZ D)) i).length≤c0∧gV w (fun q=>B≤q∧q<w.heap.size) A0 (uM (kids.map (bZ D)) i):=by
 obtain ⟨g,hA,hB,hlt,hc⟩:=Xg hO h0
 refine ⟨g,hA,hB,hlt,fun i hi=>?_⟩
 obtain ⟨y,hy,hn⟩:=Ul (D:=D) (Nat.le_of_eq hj) (i:=i) (by omega)
 rw [←hall] at hn
 obtain ⟨A0,c0,h1,h2,h3⟩:=hKA i _ hn
 exact ⟨A0,c0,hc i _ h1,h2,h3.mono fun q hq=>⟨hq.1,hq.2.1⟩⟩
theorem qM {w w3:World} {B p:Nat} {A:Option Addr} {n c:Nat} {R:wY} {x0 x1:Value} (hp:p<B)(hw:w.heap.size≤B)(hR:R.2.1=0→n=R.1.length∧n≤c∧gV w3 (fun q=>B≤q∧q<w3.heap.size) A R.1) :
 xe (fun k=>w.heap.size≤k∧k<(vF w3 p x0 x1).heap.size) R (.returned (.tuple #[.slice A n c,.agg #[.int .i64 R.2.1,.string R.2.2]])) (vF w3 p x0 x1):=by
 refine ⟨A,n,c,rfl,fun h=>?_⟩
 obtain ⟨h1,h2,h3⟩:=hR h
 exact ⟨h1,h2,(h3.kept fun k hk=>iC (by have:=hk.1;omega)).mono fun k hk=>⟨by have:=hk.1;omega,by rw [Ph];exact hk.2⟩⟩
theorem QF (D:List DM)(hDl:D.length≤1000)(hD6:∀ d∈D,d.cols.length≤6)(k:Int)(nm:ByteArray)(ex:List E)(cols left right:List ByteArray)(ag:List Ag)(kids:List P)(hM:∀ p∈kids,Nb D p):Nb D (.mk k nm ex cols left right ag kids):=by
 intro hg a w hA B d hB
 have hlow:∀ w',Below w.heap.size w w'→jS w' (fun k=>k<w'.heap.size) (.mk k nm ex cols left right ag kids) a:=fun w' hb=>(hA.kept fun k hk=>hb.block k hk).mono fun k hk=>anp hk hb.size
 obtain ⟨_,_,_,_,_,_,_,_,h1,h7,hmf,hx2,h3,hcx,_,_,hkn,_,ll,lr,le,lg,hkg⟩:=hg
 have ZA:=anc (fun (h:k=3) w' (hb:Below w.heap.size w w')(B':Option Addr)(d':Nat)(dK:List C)(hin:dK.length≤6)(hI:kG w' w'.heap.size B' dK)=>IQ (.mk k nm ex cols left right ag kids) a w' (hlow w' hb) (h3 h) le B' d' dK (by omega) hI)
 have ZB:=anc (fun w' (hb:Below w.heap.size w w')(A' B':Option Addr)(c' d':Nat)(la lb:List C)(hla:la.length≤6)(hlb:lb.length≤6)(V6:kG w' w'.heap.size A' la)(V7:kG w' w'.heap.size B' lb)=>SI (.mk k nm ex cols left right ag kids) a w' (hlow w' hb) hA.parts.l3.2 hA.parts.l4.2 ll lr A' B' c' d' la lb (by omega) (by omega) V6 V7)
 have ZC:=anc (fun w' (hb:Below w.heap.size w w')(B':Option Addr)(d':Nat)(dK:List C)(hin:dK.length≤6)(hI:kG w' w'.heap.size B' dK)=>group_any (.mk k nm ex cols left right ag kids) a w' (hlow w' hb) ll lg B' d' dK (by omega) hI)
 have HEX:=anc hA.parts.ex
 have Ih:=hA.kids
 obtain ⟨R,hR⟩:∃ R,R=bZ D (.mk k nm ex cols left right ag kids):=⟨_,rfl⟩
 rw [←hR]
 have HBAD:=anc (fun (j:Nat)(x:P)(hx:kids[j]?=some x)(hb:(bZ D x).2.1≠0) h=>hR.trans (Ug (k:=k) (nm:=nm) (ex:=ex) (cols:=cols) (left:=left) (right:=right) (ag:=ag) hx hb h))
 have YE:=anc (fun h=>hR.trans (Qy (k:=k) (nm:=nm) (ex:=ex) (cols:=cols) (left:=left) (right:=right) (ag:=ag) h))
 obtain ⟨ea,ec,ca,cc,la',lc,ra,rc,ga,gc,ka,kc⟩:=a
 simp only [P.val,P.k,P.nm,P.ex,P.cols,P.left,P.right,P.ag,P.kids] at Ih ZA ZB ZC HEX ⊢
 have q6:=Ih.len
 obtain ⟨w0,xE⟩:∃ w0,w0=w.alloc (.cells #[.int .i64 k,.string nm,.slice ea ex.length ec,.slice ca cols.length cc,.slice la' left.length lc,.slice ra right.length rc,.slice ga ag.length gc,.slice ka kids.length kc] 27):=⟨_,rfl⟩
 have hb0:Below w.heap.size w w0:=by rw [xE];exact (anl _ _).alloc (ank _) _
 have hs0:w0.heap.size=w.heap.size+1:=by rw [xE];simp
 have hx0:w0.heap[w.heap.size]?=some (.cells #[.int .i64 k,.string nm,.slice ea ex.length ec,.slice ca cols.length cc,.slice la' left.length lc,.slice ra right.length rc,.slice ga ag.length gc,.slice ka kids.length kc] 27 (0,0)):=by rw [xE];exact anm w _
 obtain ⟨w1,aK⟩:∃ w1,w1=w0.alloc (.cells #[.int .i64 0,.string ⟨#[]⟩] 61):=⟨_,rfl⟩
 have hb1:Below w0.heap.size w0 w1:=by rw [aK];exact (anl _ _).alloc (ank _) _
 have hs1:w.heap.size+1<w1.heap.size:=by rw [aK];simp;omega
 have gU:Hid (w1.heap[w.heap.size]?=some (.cells #[.int .i64 k,.string nm,.slice ea ex.length ec,.slice ca cols.length cc,.slice la' left.length lc,.slice ra right.length rc,.slice ga ag.length gc,.slice ka kids.length kc] 27 (0,0))):=anc ((hb1.block _ (by omega)).trans hx0)
 have Y6:Hid (w1.heap[w.heap.size+1]?=some (.cells #[.int .i64 0,.string ⟨#[]⟩] 61 (0,0))):=anc (by rw [aK,←hs0];exact anm w0 _)
 have HW1:=anc (show w1=(w.alloc (.cells #[.int .i64 k,.string nm,.slice ea ex.length ec,.slice ca cols.length cc,.slice la' left.length lc,.slice ra right.length rc,.slice ga ag.length gc,.slice ka kids.length kc] 27)).alloc (.cells #[.int .i64 0,.string ⟨#[]⟩] 61) by rw [aK,xE])
 have HB1:=anc (hb0.trans (hb1.mono (by omega)))
 obtain ⟨i0,hi,hz0,hz1,hz2⟩:=info_parts Uj
 obtain ⟨n6,en6⟩:∃ n,kids.length=n:=⟨_,rfl⟩
 have EN6:=anc en6
 have hkb:kids.length≤2:=by rw [hkn];unfold aJ;repeat' split
                            all_goals omega
 have HKN:=anc hkn
 have HK:=anc Ih
 have HM:=anc hM
 have HKG:=anc hkg
 have HDB:=anc hB
 have dG:=anc hx2
 have HD6:=anc hD6
 have HDL:=anc hDl
 obtain ⟨dn,ZE⟩:∃ n,D.length=n:=⟨_,rfl⟩
 have HDN:=anc ZE
 rw [ZE] at hDl ⊢
 rw [en6] at hkb q6 gU HW1 ZA ZB ZC ⊢
 clear hA hlow Ih hM en6 hkn hkg hB hx2 hD6 ZE xE aK hb0 hb1 hx0 hs0 hR hmf h3 hcx ll lr le lg
 obtain ⟨d0,d1,d2,d3,d4,d5,d6,d7,f0,f1,f2,f3,f4,f5,f6,f7⟩:=az gU.out
 go_enter Tryz.func23,Tryz.ntmps23
 go_upto_region 1 with (fail)
 rw [←HW1.out]
 go_wp2_with fail
 go_loopw [6,17] (fun v i wr=>∃ (j:Nat)(A':Option Addr)(c':Nat)(us:List Value)(ks:List (List C)),j≤n6∧i=.int .i64 j∧v=.slice A' j c'∧Hid (us.length=j∧ks.length=j)∧wr.ownsRow w1.heap.size 29 1 (.slice A' j c') j us∧Below w1.heap.size w1 wr ∧
  Hid (OE wr (fun g=>w1.heap.size≤g∧g<wr.heap.size∧(Value.slice A' j c').ownBlock≠some g) us ks)∧Hid (ks=(kids.take j).map (fun x=>(bZ D x).1)∧∀ i y,i<j→kids[i]?=some y→(bZ D y).2.1=0)) (fun _ i _=>n6-(intOf i).toNat)
 case atStart=>exact ⟨0,none,0,[],[],Nat.zero_le _,rfl,rfl,anc ⟨rfl,rfl⟩,⟨rfl,.inl ⟨rfl,rfl⟩⟩,anl _ _,anc (fun i k h=>by simp at h),anc ⟨by simp,fun i y h=>absurd h (Nat.not_lt_zero _)⟩⟩
 case round =>
  obtain ⟨j,A',c',us,ks,hj,rfl,rfl,jh,hown,hb,HKA,lY⟩:=hrel
  have HO:=anc hown
  have HB:=anc hb
  have hs:=hb.size
  have dC:=anc (HB1.out.trans (hb.mono (by omega)))
  have yT:=anc ((hb.block w.heap.size (by omega)).trans gU.out)
  have Lu:=anc ((hb.block (w.heap.size+1) (by omega)).trans Y6.out)
  clear hown hb d0 d1 d2 d3 d4 d5 d6 d7 f0 f1 f2 f3 f4 f5 f6 f7
  obtain ⟨d0,d1,d2,d3,d4,d5,d6,d7,f0,f1,f2,f3,f4,f5,f6,f7⟩:=az yT.out
  by_cases hlt:j<n6
  ·obtain ⟨x,hx⟩:=gu EN6.out.symm hlt
   have HX:=anc hx
   obtain ⟨b,o,a1,rfl,hb1,hc1,hp1⟩:=HK.out.cu dC.out hx
   have m0:=hc1 0 _ rfl
   have m1:=hc1 1 _ rfl
   have m2:=hc1 2 _ rfl
   have m3:=hc1 3 _ rfl
   have m4:=hc1 4 _ rfl
   have m5:=hc1 5 _ rfl
   have m6:=hc1 6 _ rfl
   have m7:=hc1 7 _ rfl
   rw [Nat.add_zero] at m0
   obtain ⟨wx,dN⟩:∃ wx,wx=wr.alloc (.cells #[.int .i64 x.k,.string x.nm,.slice a1.ea x.ex.length a1.ec,.slice a1.ca x.cols.length a1.cc,.slice a1.la x.left.length a1.lc,.slice a1.ra x.right.length a1.rc,.slice a1.ga x.ag.length a1.gc,.slice a1.ka x.kids.length a1.kc] 27):=⟨_,rfl⟩
   have hbx:Below wr.heap.size wr wx:=by rw [dN];exact (anl _ _).alloc (ank _) _
   have hnx:wx.heap[wr.heap.size]?=some (.cells #[.int .i64 x.k,.string x.nm,.slice a1.ea x.ex.length a1.ec,.slice a1.ca x.cols.length a1.cc,.slice a1.la x.left.length a1.lc,.slice a1.ra x.right.length a1.rc,.slice a1.ga x.ag.length a1.gc,.slice a1.ka x.kids.length a1.kc] 27 (0,0)):=by rw [dN];exact anm wr _
   have qE:=dC.out.trans (hbx.mono dC.out.size)
   have hcl:=HM.out x (anq hx) (HKG.out x (anq hx)) a1 wx (hp1.low hbx) B d ((HDB.out.kept fun k hk=>qE.block k hk).mono fun k hk=>anp hk qE.size)
   rw [HDN.out] at hcl
   have iJ:=anc hbx
   simp only [P.val] at hcl
   have jq:=anc hcl
   have jM:=anc dN
   clear dN hbx qE hx hc1 hp1 hcl
   obtain ⟨rx,hrx⟩:∃ rx,bZ D x=rx:=⟨_,rfl⟩
   have ZF:=anc hrx
   rw [hrx] at jq
   clear hrx
   obtain ⟨cl,wy,wn⟩:=rx
   generalize x.k=xk at *
   generalize x.nm=Kv at *
   generalize x.ex.length=x1 at *
   generalize x.cols.length=x2 at *
   generalize x.left.length=x3 at *
   generalize x.right.length=x4 at *
   generalize x.ag.length=x5 at *
   generalize x.kids.length=x6 at *
   obtain ⟨qa,qb,qc,qd,qe,qf,qg,qh,qi,qj,qk,ql⟩:=a1
   simp only at m0 m1 m2 m3 m4 m5 m6 m7 jq jM hnx
   obtain ⟨z0,z1,z2,z3,z4,z5,z6,z7,_,_,_,_,_,_,_,_⟩:=az hnx
   go_upto_region 5 with (fail)
   rw [←jM.out]
   go_wp2_with fail
   refine (jq.out).mono ?_
   rintro e w3 ⟨⟨A3,n3',c3,rfl,hr3⟩,hb3⟩
   simp only at hr3
   have HR3:=anc hr3
   have hs3:=hb3.size
   have akR:=anc hb3
   obtain ⟨w4,wH⟩:∃ w4,w4=w3.alloc (.cells #[.int .i64 wy,.string wn] 61):=⟨_,rfl⟩
   have ZG:=anc wH
   have Uo:Hid (Below w3.heap.size w3 w4):=anc (by rw [wH];exact (anl _ _).alloc (ank _) _)
   have YC:Hid (w4.heap[w3.heap.size]?=some (.cells #[.int .i64 wy,.string wn] 61 (0,0))):=anc (by rw [wH];exact anm w3 _)
   have HB4:Hid (Below wr.heap.size wr w4):=anc ((iJ.out.trans (hb3.mono iJ.out.size)).trans (Uo.out.mono (anv iJ.out.size hs3)))
   have hs4:=HB4.out.size
   have uJ:=anc (dC.out.trans (HB4.out.mono dC.out.size))
   have HF4:=anc ((HB4.out.block (w.heap.size+1) (by omega)).trans Lu.out)
   clear hb3 hr3 wH z0 z1 z2 z3 z4 z5 z6 z7 m0 m1 m2 m3 m4 m5 m6 m7 hnx d0 d1 d2 d3 d4 d5 d6 d7 f0 f1 f2 f3 f4 f5 f6 f7
   have akS:w3.heap.size<w4.heap.size:=(Array.getElem?_eq_some_iff.1 YC.out).1
   obtain ⟨⟨t0,t1⟩,_,_⟩:=cell2 YC.out
   go_upto_region 6 with (fail)
   rw [←ZG.out]
   by_cases hwy:wy=0
   ·subst hwy
    obtain ⟨hn3,hc3,hC3⟩:=HR3.out rfl
    subst hn3
    have HC3:=anc hC3
    have afY:=anc hc3
    have acL:=anc (Um HX.out (by rw [ZF.out]) lY.out)
    rw [ZF.out] at acL
    have jZ:=anc (own_below HO.out HB4.out)
    have afZ:Hid (gV w4 (fun g=>wr.heap.size≤g∧g<w4.heap.size) A3 cl):=anc ((hC3.kept fun g hg=>Uo.out.block g hg.2).mono fun g hg=>⟨anv iJ.out.size hg.1,by omega⟩)
    clear hC3 hc3
    obtain ⟨cn,ecn⟩:∃ cn,cl.length=cn:=⟨_,rfl⟩
    have HCN:=anc ecn
    have hjm:j≤600:=by omega
    rw [ecn]
    clear ecn
    go_wp2_with (at_builtin;refine wpList_append_lies _ rfl _ _ 92 rfl w1.heap.size 29 i0 _ 1 24 Tryz.underlying92 hi hz0 hz1 hz2 rfl (by decide) (.slice A' j c') j us rfl (jZ.out.alloc _) ⟨w4.heap.size,0,none⟩ 1 1 [.slice A3 cn c3] rfl rfl ?c1 ?c2 (by decide) ?c3 ?c4 ?c5 _ rfl ?_)
    case c2=>rfl
    case c3=>exact lJ rfl hjm
    case c4=>exact jP rfl hjm (by decide)
    case c5=>first | omega | (simp;omega)
    intro g' cap w5 hown hgrow hat yU
    have fV:=anc hown
    have qx:Hid (w4.grownBy w5 (Value.slice A' j c').ownBlock):=anc ((World.grownBy_alloc _ _ _).trans hgrow)
    have fP:=anc (((HB.out.trans (HB4.out.mono hs)).alloc (by omega) (.cells #[.slice A3 cn c3] 29)).grown hgrow (by simp;omega) (fun k e=>(jZ.out.lt k e).1))
    have gY:Hid ((Value.slice (some ⟨g',0,none⟩) (j+1) cap).ownBlock=(Value.slice A' j c').ownBlock∨∃ n,(Value.slice (some ⟨g',0,none⟩) (j+1) cap).ownBlock=some n∧w4.heap.size≤n):=anc (hat.imp (fun h=>h.symm) fun h=>⟨g',rfl,by rw [h];simp⟩)
    clear hown hgrow hat
    go_wp2_with fail
    go_roundw
    case rel =>
     refine ⟨j+1,_,cap,us++[.slice A3 cn c3],ks++[cl],hlt,by simp,rfl,anc ⟨by simp [jh.out.1],by simp [jh.out.2]⟩,fV.out,fP.out,anc ?_,acL⟩
     have:=Ui (n:=0) (v':=Value.slice (some ⟨g',0,none⟩) (j+1) cap) (k:=cl) (c:=c3) (A:=A3) HKA.out (jh.out.1.trans jh.out.2.symm) (fun g h=>HO.out.lt g h) HB4.out afZ.out qx.out gY.out qx.out.size afY.out hs
     rw [HCN.out] at this
     exact this
    case measure=>exact mD hlt
   ·have acM:(wy != 0)=true:=by simpa using hwy
    have HL2:Hid (R=je wy wn):=anc (by rw [HBAD.out j x HX.out (by rw [ZF.out];exact hwy) lY.out.2,ZF.out];rfl)
    obtain ⟨⟨r0,r1⟩,g0,g1⟩:=cell2 HF4.out
    go_upto_region 7 with (fail)
    go_region
    all_goals
     go_wp2_with fail
     refine ano (aP rfl rfl rfl (kD HF4.out)) rfl ?_
     exact ⟨fC hwy HL2.out rfl,(aQ uJ.out (Nat.le_succ _)).drew⟩
  ·have hjn:j=n6:=by omega
   subst hjn
   have HL2:=anc (YE.out (fun i y hy=>lY.out.2 i y (by have:=(List.getElem?_eq_some_iff.1 hy).1;rw [EN6.out] at this;exact this) hy))
   have TL:=anc (fun h0=>Un (D:=D) HO.out HKA.out lY.out.1 EN6.out h0)
   obtain ⟨a0,ea0⟩:∃ a0,a0=uM (kids.map (bZ D)) 0:=⟨_,rfl⟩
   obtain ⟨b0,eb0⟩:∃ b0,b0=uM (kids.map (bZ D)) 1:=⟨_,rfl⟩
   have HA6:Hid (a0.length≤6):=anc (by rw [ea0];exact JE HD6.out kids 0)
   have iP:Hid (b0.length≤6):=anc (by rw [eb0];exact JE HD6.out kids 1)
   rw [←ea0,←eb0] at HL2
   have HEA:=anc ea0
   have HEB:=anc eb0
   have hkj:Hid (j=aJ k):=anc (by rw [←EN6.out,HKN.out])
   have hwp:w.heap.size<wr.heap.size:=by omega
   have QG:w.heap.size+1<wr.heap.size:=by omega
   clear HBAD YE lY HKA HO jh ea0 eb0
   obtain hk | hk | hk | hk | hk | hk | hk:k=1∨k=2∨k=3∨k=4∨k=5∨k=6∨k=7:=by omega
   ·subst hk
    have htab:R=Em D nm:=HL2.out
    unfold Em at htab
    have HDW:Hid (kS wr (LT w) B D):=anc (HDB.out.kept fun k hk=>dC.out.block k hk)
    have HIX:=anc (En B d D nm w.heap.size wr HDW.out (fun k hk=>Nat.lt_trans hk hwp) (by have:=HDL.out;omega) yT.out)
    rw [HDN.out] at HIX
    obtain ⟨iv,eiv⟩:∃ v,idx (DM.mO nm) D 0=v:=⟨_,rfl⟩
    rw [eiv] at HIX htab
    have acO:=anc htab
    have HIV:=anc eiv
    clear htab eiv
    go_wp2_with fail
    refine (HIX.out).mono ?_
    rintro e w3 ⟨rfl,hb3⟩
    have HB3:=anc hb3
    have hs3:=hb3.size
    have mP:=anc ((hb3.block w.heap.size hwp).trans yT.out)
    have HF3:=anc ((hb3.block (w.heap.size+1) QG).trans Lu.out)
    clear hb3 d0 d1 d2 d3 d4 d5 d6 d7 f0 f1 f2 f3 f4 f5 f6 f7
    obtain ⟨d0,d1,d2,d3,d4,d5,d6,d7,f0,f1,f2,f3,f4,f5,f6,f7⟩:=az mP.out
    obtain ⟨⟨r0,r1⟩,g0,g1⟩:=cell2 HF3.out
    by_cases hiv:iv<0
    ·have hd:decide (iv<0)=true:=decide_eq_true hiv
     have HR2:Hid (R=je 20 nm):=anc (by rw [acO.out,if_pos hiv])
     go_upto_region 14 with (fail)
     go_region
     all_goals
      go_wp2_with fail
      refine ano (aP rfl rfl rfl (kD HF3.out)) rfl ?_
      exact ⟨fC (by decide) HR2.out rfl,(aQ (dC.out.trans (HB3.out.mono dC.out.size)) (Nat.le_succ _)).drew⟩
    ·obtain ⟨i,t,hit,ht⟩:=OH D 0 (by rw [HIV.out];exact hiv)
     rw [HIV.out,Nat.zero_add] at hit
     subst hit
     have hil:i<dn:=by rw [←HDN.out];exact (List.getElem?_eq_some_iff.1 ht).1
     have akT:(i:Int)<(dn:Int):=by omega
     have hd:decide ((i:Int)<0)=false:=decide_eq_false hiv
     have HR2:Hid (R=(t.cols,0,⟨#[]⟩)):=anc (by
      rw [acO.out,if_neg hiv,Int.toNat_natCast,List.getD_eq_getElem?_getD,ht]
      rfl)
     have HD3:=anc (HDW.out.kept (w':=w3) fun k hk=>HB3.out.block k (Nat.lt_trans hk hwp))
     obtain ⟨bd,od,rfl,hbd,hcn,hcs⟩:=HD3.out.get ht
     have KC:=anc (cloneCols t.cA t.cc t.cols w3 (HD3.out.cols t (anq ht)) (fun k hk=>anp (Nat.lt_trans hk hwp) hs3) (by have:=HD6.out t (anq ht);omega))
     obtain ⟨tn,tA,tc,tl⟩:=t
     simp only at hcn hcs KC HR2
     obtain ⟨tm,etm⟩:∃ m,tl.length=m:=⟨_,rfl⟩
     have ZH:=anc etm
     rw [etm] at hcs KC
     clear etm ht
     go_wp2_with fail
     refine (KC.out).mono ?_
     rintro e w5 ⟨⟨v',rfl,hown⟩,hb5⟩
     rw [←ZH.out] at hown
     obtain ⟨A9,c9,rfl,Gp,hC9⟩:=pz (S:=fun q=>w1.heap.size≤q∧q<w5.heap.size) hown (fun q q1 q2 _=>⟨by omega,q2⟩)
     have HC9:=anc hC9
     have fP:=anc (HB3.out.trans (hb5.mono hs3))
     have HF5:=anc ((hb5.block (w.heap.size+1) (by omega)).trans HF3.out)
     clear hown hb5 hC9 r0 r1 g0 g1 d0 d1 d2 d3 d4 d5 d6 d7 f0 f1 f2 f3 f4 f5 f6 f7 hcn hcs
     obtain ⟨⟨r0,r1⟩,g0,g1⟩:=cell2 HF5.out
     go_wp2_with fail
     refine ano (aP rfl rfl rfl (aY HF5.out)) rfl ?_
     refine ⟨?_,aQ (dC.out.trans (fP.out.mono dC.out.size)) (Nat.le_succ _)⟩
     rw [HR2.out]
     exact qM (R:=(tl,0,⟨#[]⟩)) (B:=w1.heap.size) hs1 (by omega) (fun h=>⟨rfl,Gp,HC9.out⟩)
   ·subst hk
    have h0j:0<j:=by rw [hkj.out];decide
    have Ur:(0:Int)<(j:Int):=by omega
    obtain ⟨g,rfl,hg1,hg2,hgc⟩:=TL.out h0j
    obtain ⟨A0,c0,m0,hc0,hC0⟩:=hgc 0 h0j
    rw [←HEA.out] at m0 hc0 hC0
    have NZ:=anc hC0
    have zI:g≠w.heap.size+1:=by omega
    obtain ⟨an,Dl⟩:∃ n,a0.length=n:=⟨_,rfl⟩
    have QH:=anc Dl
    rw [Dl] at m0 hc0
    clear hgc hC0 Dl
    have acQ:=dG.out rfl
    obtain ⟨e,he⟩:∃ e,ex[0]?=some e:=⟨_,anr (by rw [acQ];decide)⟩
    have hfe:R=FT a0 (ex.getD 0 zeroE):=HL2.out
    rw [List.getD_eq_getElem?_getD,he] at hfe
    obtain ⟨b,o,A2,c2,rfl,hbe,z0,z1,z2,z3,hKx⟩:=(HEX.out.to (B:=w.heap.size) (fun k hk=>hk)).cu wr dC.out 0 e he
    rw [Nat.zero_mul,Nat.add_zero] at z0 z1 z2 z3
    have VB:=anc (Ir a0 (by have:=HA6.out;omega) e A2 A0 c2 c0 wr.drew (hKx.low (anl _ wr).drew) (NZ.out.to fun q hq=>hq.2))
    rw [QH.out] at VB
    have Us:R=FT a0 e:=hfe
    unfold FT at Us
    obtain ⟨ty,hty⟩:∃ ty,ty=ed a0 e:=⟨_,rfl⟩
    rw [←hty] at VB Us
    obtain ⟨tk,tw⟩:=ty
    simp only at Us
    have HFE:=anc Us
    obtain ⟨ek,es,eN,el⟩:=e
    simp only [E.val,E.k,E.s,E.n,E.kids] at z0 z1 z2 z3 VB
    obtain ⟨em,eem⟩:∃ m,el.length=m:=⟨_,rfl⟩
    rw [eem] at z3 VB
    have hx0:0<ex.length:=by omega
    have akU:(0:Int)<(ex.length:Int):=by omega
    have hbr:b<wr.heap.size:=by omega
    have hbne:b≠w.heap.size+1:=by omega
    clear acQ he hfe Us hty hKx eem
    go_upto_region 17 with (fail)
    refine wp_region_held_drew (S:=fun w'=>∀ q,q<wr.heap.size→q≠w.heap.size+1→w'.heap[q]?=wr.heap[q]?) (by kernel_rfl) (fun q _ _=>rfl) (fun hHeld=>?_)
    refine wpAnyH_take (i:=0) (v:=.pointer (some ⟨w.heap.size,2,none⟩)) rfl (by kernel_rfl) (by kernel_rfl) (by kernel_rfl) (fun _ _ _ h=>h) (Or.inl ⟨by rfl,fun w1' hSw=>by (go_simp)⟩) (by assumption) ?_
    simp only [ane,anf,Act.put,anh,ani,anj]
    refine wpAnyH_take (i:=1) (v:=.slice (some ⟨b,o,none⟩) ex.length ec) rfl (by kernel_rfl) (by kernel_rfl) (by kernel_rfl) (fun _ _ _ h=>h) (Or.inl ⟨by rfl,fun w1' hSw=>by (have y9:=az ((hSw w.heap.size hwp (by omega)).trans yT.out);obtain ⟨y0,y1,y2,y3,y4,y5,y6,y7,_,_,_,_,_,_,_,_⟩:=y9;go_simp)⟩) (by assumption) ?_
    simp only [ane,ang,anf,Act.put,anh,ani,anj]
    refine wpAnyH_take (i:=2) (v:=.pointer (some ⟨b,o,none⟩)) rfl (by kernel_rfl) (by kernel_rfl) (by kernel_rfl) (fun _ _ _ h=>h) (Or.inl ⟨by rfl,fun w1' hSw=>by (go_simp)⟩) (by assumption) ?_
    simp only [ane,ang,anf,Act.put,anh,ani,anj]
    refine wpAnyH_take (i:=3) (v:=.agg #[.int .i64 ek,.string es,.int .i64 eN,.slice A2 em c2]) rfl (by kernel_rfl) (by kernel_rfl) (by kernel_rfl) (fun _ _ _ h=>h) (Or.inl ⟨by rfl,fun w1' hSw=>by (have x0:=(anw (a:=⟨b,o,none⟩) (hSw b hbr hbne)).trans z0;have x1:=(anw (a:=⟨b,o+1,none⟩) (hSw b hbr hbne)).trans z1;have x2:=(anw (a:=⟨b,o+2,none⟩) (hSw b hbr hbne)).trans z2;have x3:=(anw (a:=⟨b,o+3,none⟩) (hSw b hbr hbne)).trans z3;go_simp)⟩) (by assumption) ?_
    simp only [ane,ang,anf,Act.put,anh,ani,anj]
    refine wpAnyH_take (i:=4) (v:=.slice (some ⟨g,0,none⟩) j c') rfl (by kernel_rfl) (by kernel_rfl) (by kernel_rfl) (fun _ _ _ h=>h) (Or.inl ⟨by rfl,fun w1' hSw=>by (go_simp)⟩) (by assumption) ?_
    simp only [ane,ang,anf,Act.put,anh,ani,anj]
    refine wpAnyH_take (i:=5) (v:=.pointer (some ⟨g,0,none⟩)) rfl (by kernel_rfl) (by kernel_rfl) (by kernel_rfl) (fun _ _ _ h=>h) (Or.inl ⟨by rfl,fun w1' hSw=>by (go_simp)⟩) (by assumption) ?_
    simp only [ane,ang,anf,Act.put,anh,ani,anj]
    refine wpAnyH_take (i:=6) (v:=.slice A0 an c0) rfl (by kernel_rfl) (by kernel_rfl) (by kernel_rfl) (fun _ _ _ h=>h) (Or.inl ⟨by rfl,fun w1' hSw=>by (have y0:=(anw (a:=⟨g,0,none⟩) (hSw g hg2 zI)).trans m0;go_simp)⟩) (by assumption) ?_
    simp only [ane,ang,anf,Act.put,anh,ani,anj]
    refine wpAnyH_ready (rs:=[7]) (by kernel_rfl) (by simp) ?_
    refine AllReadyH.cons rfl (fun K hK=>?_) AllReadyH.nil
    simp only [ane,ang,anf]
    go_simp
    refine (VB.out).mono ?_
    rintro e w3 ⟨rfl,hb3⟩
    have HB3:Hid (Below wr.heap.size wr w3):=anc ((anl wr.heap.size wr).drew.trans hb3)
    have HF3:=anc ((HB3.out.block (w.heap.size+1) QG).trans Lu.out)
    go_wp2_with fail
    have hS3:∀ q,q<wr.heap.size→q≠w.heap.size+1→w3.heap[q]?=wr.heap[q]?:=fun q hq _=>HB3.out.block q hq
    refine hK.out _ _ hS3 (fun hHeld=>?_)
    clear hK K hb3
    refine wpAnyH_take (i:=8) (v:=.tuple #[.int .i64 tk,.int .i64 tw]) rfl (by kernel_rfl) (by kernel_rfl) (by kernel_rfl) (fun _ _ _ h=>h) (Or.inl ⟨by rfl,fun w1' hSw=>by (go_simp)⟩) (by assumption) ?_
    simp only [ane,ang,anf,Act.put,anh,ani,anj]
    refine wpAnyH_take (i:=9) (v:=.int .i64 tk) rfl (by kernel_rfl) (by kernel_rfl) (by kernel_rfl) (fun _ _ _ h=>h) (Or.inl ⟨by rfl,fun w1' hSw=>by (go_simp)⟩) (by assumption) ?_
    simp only [ane,ang,anf,Act.put,anh,ani,anj]
    refine wpAnyH_take (i:=10) (v:=.int .i64 tw) rfl (by kernel_rfl) (by kernel_rfl) (by kernel_rfl) (fun _ _ _ h=>h) (Or.inl ⟨by rfl,fun w1' hSw=>by (go_simp)⟩) (by assumption) ?_
    simp only [ane,ang,anf,Act.put,anh,ani,anj]
    refine wpAnyH_take (i:=11) (v:=.int .i64 tk) rfl (by kernel_rfl) (by kernel_rfl) (by kernel_rfl) (fun _ _ _ h=>h) (Or.inl ⟨by rfl,fun w1' hSw=>by (go_simp)⟩) (by assumption) ?_
    simp only [ane,ang,anf,Act.put,anh,ani,anj]
    refine wpAnyH_take (i:=12) (v:=.int .i64 tw) rfl (by kernel_rfl) (by kernel_rfl) (by kernel_rfl) (fun _ _ _ h=>h) (Or.inl ⟨by rfl,fun w1' hSw=>by (go_simp)⟩) (by assumption) ?_
    simp only [ane,ang,anf,Act.put,anh,ani,anj]
    refine wpAnyH_done (by kernel_rfl) ?_ _
    have m3:=(anw (a:=⟨g,0,none⟩) (hS3 g hg2 zI)).trans m0
    obtain ⟨⟨r0,r1⟩,g0,g1⟩:=cell2 HF3.out
    clear d0 d1 d2 d3 d4 d5 d6 d7 f0 f1 f2 f3 f4 f5 f6 f7 m0 z0 z1 z2 z3
    have ZI:Hid (∀ why:Int,R=(a0,why,⟨#[]⟩)→xe (fun k=>w.heap.size≤k∧k<(vF w3 (w.heap.size+1) (.int .i64 why) (.string ⟨#[]⟩)).heap.size) R (.returned (.tuple #[.slice A0 an c0,.agg #[.int .i64 why,.string ⟨#[]⟩]])) (vF w3 (w.heap.size+1) (.int .i64 why) (.string ⟨#[]⟩))∧Below w.heap.size w (vF w3 (w.heap.size+1) (.int .i64 why) (.string ⟨#[]⟩))):=anc (fun why hR=>by
     refine ⟨?_,aQ (dC.out.trans (HB3.out.mono dC.out.size)) (Nat.le_succ _)⟩
     rw [hR]
     exact qM (R:=(a0,why,⟨#[]⟩)) (B:=w1.heap.size) hs1 (by omega) (fun h=>⟨QH.out.symm,hc0,(NZ.out.kept fun q hq=>HB3.out.block q hq.2).mono fun q hq=>⟨hq.1,anp hq.2 HB3.out.size⟩⟩))
    by_cases htw:tw=0
    ·subst htw
     by_cases htk:tk=1
     ·subst htk
      have HR2:Hid (R=(a0,0,⟨#[]⟩)):=anc (by rw [HFE.out];rfl)
      go_wp2_with fail
      refine ano (aP rfl rfl rfl (aY HF3.out)) rfl ?_
      exact ZI.out 0 HR2.out
     ·have akV:(tk != 1)=true:=by simpa using htk
      have HR2:Hid (R=(a0,22,⟨#[]⟩)):=anc (by rw [HFE.out,if_pos ⟨rfl,htk⟩])
      go_wp2_with fail
      refine ano (aP rfl rfl rfl (aY HF3.out)) rfl ?_
      exact ZI.out 22 HR2.out
    ·have abC:(tw==0)=false:=by simpa using htw
     have HR2:Hid (R=(a0,tw,⟨#[]⟩)):=anc (by rw [HFE.out,if_neg (fun h=>htw h.1)])
     go_wp2_with fail
     refine ano (aP rfl rfl rfl (aY HF3.out)) rfl ?_
     exact ZI.out tw HR2.out
   ·subst hk
    have h0j:0<j:=by rw [hkj.out];decide
    have Ur:(0:Int)<(j:Int):=by omega
    obtain ⟨g,rfl,hg1,hg2,hgc⟩:=TL.out h0j
    obtain ⟨A0,c0,m0,hc0,hC0⟩:=hgc 0 h0j
    rw [←HEA.out] at m0 hc0 hC0
    have NZ:=anc hC0
    have zI:g≠w.heap.size+1:=by omega
    obtain ⟨an,Dl⟩:∃ n,a0.length=n:=⟨_,rfl⟩
    have QH:=anc Dl
    rw [Dl] at m0 hc0
    clear hgc hC0 Dl
    have EX:=anc (ZA.out rfl wr.drew dC.out.drew A0 c0 a0 HA6.out (NZ.out.to fun q hq=>hq.2))
    rw [QH.out,show dR a0 [] (cols.zip ex)=R from HL2.out.symm] at EX
    go_upto_region 22 with (fail)
    refine wp_region_held_drew (S:=fun w'=>∀ q,q<wr.heap.size→q≠w.heap.size+1→w'.heap[q]?=wr.heap[q]?) (by kernel_rfl) (fun q _ _=>rfl) (fun hHeld=>?_)
    refine wpAnyH_take (i:=0) (v:=(.agg #[.int .i64 3,.string nm,.slice ea ex.length ec,.slice ca cols.length cc,.slice la' left.length lc,.slice ra right.length rc,.slice ga ag.length gc,.slice ka j kc])) rfl (by kernel_rfl) (by kernel_rfl) (by kernel_rfl) (fun _ _ _ h=>h) (Or.inl ⟨by rfl,fun w1' hSw=>by (have y9:=az ((hSw w.heap.size hwp (by omega)).trans yT.out);obtain ⟨y0,y1,y2,y3,y4,y5,y6,y7,_,_,_,_,_,_,_,_⟩:=y9;go_simp)⟩) (by assumption) ?_
    simp only [ane,anf,Act.put,anh,ani,anj]
    refine wpAnyH_take (i:=1) (v:=.slice (some ⟨g,0,none⟩) j c') rfl (by kernel_rfl) (by kernel_rfl) (by kernel_rfl) (fun _ _ _ h=>h) (Or.inl ⟨by rfl,fun w1' hSw=>by (go_simp)⟩) (by assumption) ?_
    simp only [ane,ang,anf,Act.put,anh,ani,anj]
    refine wpAnyH_take (i:=2) (v:=.pointer (some ⟨g,0,none⟩)) rfl (by kernel_rfl) (by kernel_rfl) (by kernel_rfl) (fun _ _ _ h=>h) (Or.inl ⟨by rfl,fun w1' hSw=>by (go_simp)⟩) (by assumption) ?_
    simp only [ane,ang,anf,Act.put,anh,ani,anj]
    refine wpAnyH_take (i:=3) (v:=.slice A0 an c0) rfl (by kernel_rfl) (by kernel_rfl) (by kernel_rfl) (fun _ _ _ h=>h) (Or.inl ⟨by rfl,fun w1' hSw=>by (have y0:=(anw (a:=⟨g,0,none⟩) (hSw g hg2 zI)).trans m0;go_simp)⟩) (by assumption) ?_
    simp only [ane,ang,anf,Act.put,anh,ani,anj]
    refine wpAnyH_ready (rs:=[4]) (by kernel_rfl) (by simp) ?_
    refine AllReadyH.cons rfl (fun K hK=>?_) AllReadyH.nil
    simp only [ane,ang,anf]
    go_simp
    refine (EX.out).mono ?_
    rintro e w3 ⟨⟨A9,n9,c9,rfl,OI⟩,hb3⟩
    have IC:=anc OI
    have HB3:Hid (Below wr.heap.size wr w3):=anc ((anl wr.heap.size wr).drew.trans hb3)
    have HF3:=anc ((HB3.out.block (w.heap.size+1) QG).trans Lu.out)
    go_wp2_with fail
    have hS3:∀ q,q<wr.heap.size→q≠w.heap.size+1→w3.heap[q]?=wr.heap[q]?:=fun q hq _=>HB3.out.block q hq
    refine hK.out _ _ hS3 (fun hHeld=>?_)
    clear hK K hb3 OI
    obtain ⟨⟨r0,r1⟩,g0,g1⟩:=cell2 HF3.out
    refine wpAnyH_take (i:=5) (v:=.slice A9 n9 c9) rfl (by kernel_rfl) (by kernel_rfl) (by kernel_rfl) (fun _ _ _ h=>h) (Or.inl ⟨by rfl,fun w1' hSw=>by (go_simp)⟩) (by assumption) ?_
    simp only [ane,ang,anf,Act.put,anh,ani,anj]
    refine wpAnyH_take (i:=6) (v:=.agg #[.int .i64 R.2.1,.string R.2.2]) rfl (by kernel_rfl) (by kernel_rfl) (by kernel_rfl) (fun _ _ _ h=>h) (Or.inl ⟨by rfl,fun w1' hSw=>by (go_simp)⟩) (by assumption) ?_
    simp only [ane,ang,anf,Act.put,anh,ani,anj]
    refine wpAnyH_take (i:=7) (v:=.slice A9 n9 c9) rfl (by kernel_rfl) (by kernel_rfl) (by kernel_rfl) (fun _ _ _ h=>h) (Or.inl ⟨by rfl,fun w1' hSw=>by (go_simp)⟩) (by assumption) ?_
    simp only [ane,ang,anf,Act.put,anh,ani,anj]
    refine wpAnyH_ready (rs:=[8]) (by kernel_rfl) (by simp) ?_
    refine AllReadyH.cons rfl (fun K hK=>?_) AllReadyH.nil
    simp only [ane,ang,anf]
    go_simp
    refine hK.out _ _ (fun q hq hn=>(iC hn).trans (hS3 q hq hn)) (fun hHeld=>?_)
    clear hK K
    refine wpAnyH_done (by kernel_rfl) ?_ _
    go_wp2_with fail
    refine ano (aP rfl rfl rfl (aY HF3.out)) rfl ?_
    refine ⟨qM (B:=w1.heap.size) hs1 (by omega) (fun h=>?_),aQ (dC.out.trans (HB3.out.mono dC.out.size)) (Nat.le_succ _)⟩
    obtain ⟨y1,y2,y3⟩:=IC.out h
    exact ⟨y1,y2,y3.mono fun q hq=>⟨anv hs hq.1,hq.2⟩⟩
   ·subst hk
    have h0j:0<j:=by rw [hkj.out];decide
    have Ur:(0:Int)<(j:Int):=by omega
    obtain ⟨g,rfl,hg1,hg2,hgc⟩:=TL.out h0j
    obtain ⟨A0,c0,m0,hc0,hC0⟩:=hgc 0 h0j
    rw [←HEA.out] at m0 hc0 hC0
    have NZ:=anc hC0
    have zI:g≠w.heap.size+1:=by omega
    obtain ⟨an,Dl⟩:∃ n,a0.length=n:=⟨_,rfl⟩
    have QH:=anc Dl
    rw [Dl] at m0 hc0
    have h1j:1<j:=by rw [hkj.out];decide
    have af7:(1:Int)<(j:Int):=by omega
    obtain ⟨A1,c1,m1,hc1,ZJ⟩:=hgc 1 h1j
    rw [←HEB.out] at m1 hc1 ZJ
    have Oc:=anc ZJ
    obtain ⟨bn,ZK⟩:∃ n,b0.length=n:=⟨_,rfl⟩
    have KG:=anc ZK
    rw [ZK] at m1 hc1
    clear hgc hC0 Dl ZJ ZK
    have EX:=anc (ZB.out wr.drew dC.out.drew A0 A1 c0 c1 a0 b0 HA6.out iP.out (NZ.out.to fun q hq=>hq.2) (Oc.out.to fun q hq=>hq.2))
    rw [QH.out,KG.out,show uQ a0 b0 left right=R from HL2.out.symm] at EX
    go_upto_region 24 with (fail)
    refine wp_region_held_drew (S:=fun w'=>∀ q,q<wr.heap.size→q≠w.heap.size+1→w'.heap[q]?=wr.heap[q]?) (by kernel_rfl) (fun q _ _=>rfl) (fun hHeld=>?_)
    refine wpAnyH_take (i:=0) (v:=(.agg #[.int .i64 4,.string nm,.slice ea ex.length ec,.slice ca cols.length cc,.slice la' left.length lc,.slice ra right.length rc,.slice ga ag.length gc,.slice ka j kc])) rfl (by kernel_rfl) (by kernel_rfl) (by kernel_rfl) (fun _ _ _ h=>h) (Or.inl ⟨by rfl,fun w1' hSw=>by (have y9:=az ((hSw w.heap.size hwp (by omega)).trans yT.out);obtain ⟨y0,y1,y2,y3,y4,y5,y6,y7,_,_,_,_,_,_,_,_⟩:=y9;go_simp)⟩) (by assumption) ?_
    simp only [ane,anf,Act.put,anh,ani,anj]
    refine wpAnyH_take (i:=1) (v:=.slice (some ⟨g,0,none⟩) j c') rfl (by kernel_rfl) (by kernel_rfl) (by kernel_rfl) (fun _ _ _ h=>h) (Or.inl ⟨by rfl,fun w1' hSw=>by (go_simp)⟩) (by assumption) ?_
    simp only [ane,ang,anf,Act.put,anh,ani,anj]
    refine wpAnyH_take (i:=2) (v:=.pointer (some ⟨g,0,none⟩)) rfl (by kernel_rfl) (by kernel_rfl) (by kernel_rfl) (fun _ _ _ h=>h) (Or.inl ⟨by rfl,fun w1' hSw=>by (go_simp)⟩) (by assumption) ?_
    simp only [ane,ang,anf,Act.put,anh,ani,anj]
    refine wpAnyH_take (i:=3) (v:=.slice A0 an c0) rfl (by kernel_rfl) (by kernel_rfl) (by kernel_rfl) (fun _ _ _ h=>h) (Or.inl ⟨by rfl,fun w1' hSw=>by (have y0:=(anw (a:=⟨g,0,none⟩) (hSw g hg2 zI)).trans m0;go_simp)⟩) (by assumption) ?_
    simp only [ane,ang,anf,Act.put,anh,ani,anj]
    refine wpAnyH_take (i:=4) (v:=.slice (some ⟨g,0,none⟩) j c') rfl (by kernel_rfl) (by kernel_rfl) (by kernel_rfl) (fun _ _ _ h=>h) (Or.inl ⟨by rfl,fun w1' hSw=>by (go_simp)⟩) (by assumption) ?_
    simp only [ane,ang,anf,Act.put,anh,ani,anj]
    refine wpAnyH_take (i:=5) (v:=.pointer (some ⟨g,1,none⟩)) rfl (by kernel_rfl) (by kernel_rfl) (by kernel_rfl) (fun _ _ _ h=>h) (Or.inl ⟨by rfl,fun w1' hSw=>by (go_simp)⟩) (by assumption) ?_
    simp only [ane,ang,anf,Act.put,anh,ani,anj]
    refine wpAnyH_take (i:=6) (v:=.slice A1 bn c1) rfl (by kernel_rfl) (by kernel_rfl) (by kernel_rfl) (fun _ _ _ h=>h) (Or.inl ⟨by rfl,fun w1' hSw=>by (have y1:=(anw (a:=⟨g,1,none⟩) (hSw g hg2 zI)).trans m1;go_simp)⟩) (by assumption) ?_
    simp only [ane,ang,anf,Act.put,anh,ani,anj]
    refine wpAnyH_ready (rs:=[7]) (by kernel_rfl) (by simp) ?_
    refine AllReadyH.cons rfl (fun K hK=>?_) AllReadyH.nil
    simp only [ane,ang,anf]
    go_simp
    refine (EX.out).mono ?_
    rintro e w3 ⟨⟨A9,n9,c9,rfl,OI⟩,hb3⟩
    have IC:=anc OI
    have HB3:Hid (Below wr.heap.size wr w3):=anc ((anl wr.heap.size wr).drew.trans hb3)
    have HF3:=anc ((HB3.out.block (w.heap.size+1) QG).trans Lu.out)
    go_wp2_with fail
    have hS3:∀ q,q<wr.heap.size→q≠w.heap.size+1→w3.heap[q]?=wr.heap[q]?:=fun q hq _=>HB3.out.block q hq
    refine hK.out _ _ hS3 (fun hHeld=>?_)
    clear hK K hb3 OI
    obtain ⟨⟨r0,r1⟩,g0,g1⟩:=cell2 HF3.out
    refine wpAnyH_take (i:=8) (v:=.slice A9 n9 c9) rfl (by kernel_rfl) (by kernel_rfl) (by kernel_rfl) (fun _ _ _ h=>h) (Or.inl ⟨by rfl,fun w1' hSw=>by (go_simp)⟩) (by assumption) ?_
    simp only [ane,ang,anf,Act.put,anh,ani,anj]
    refine wpAnyH_take (i:=9) (v:=.agg #[.int .i64 R.2.1,.string R.2.2]) rfl (by kernel_rfl) (by kernel_rfl) (by kernel_rfl) (fun _ _ _ h=>h) (Or.inl ⟨by rfl,fun w1' hSw=>by (go_simp)⟩) (by assumption) ?_
    simp only [ane,ang,anf,Act.put,anh,ani,anj]
    refine wpAnyH_take (i:=10) (v:=.slice A9 n9 c9) rfl (by kernel_rfl) (by kernel_rfl) (by kernel_rfl) (fun _ _ _ h=>h) (Or.inl ⟨by rfl,fun w1' hSw=>by (go_simp)⟩) (by assumption) ?_
    simp only [ane,ang,anf,Act.put,anh,ani,anj]
    refine wpAnyH_ready (rs:=[11]) (by kernel_rfl) (by simp) ?_
    refine AllReadyH.cons rfl (fun K hK=>?_) AllReadyH.nil
    simp only [ane,ang,anf]
    go_simp
    refine hK.out _ _ (fun q hq hn=>(iC hn).trans (hS3 q hq hn)) (fun hHeld=>?_)
    clear hK K
    refine wpAnyH_done (by kernel_rfl) ?_ _
    go_wp2_with fail
    refine ano (aP rfl rfl rfl (aY HF3.out)) rfl ?_
    refine ⟨qM (B:=w1.heap.size) hs1 (by omega) (fun h=>?_),aQ (dC.out.trans (HB3.out.mono dC.out.size)) (Nat.le_succ _)⟩
    obtain ⟨y1,y2,y3⟩:=IC.out h
    exact ⟨y1,y2,y3.mono fun q hq=>⟨anv hs hq.1,hq.2⟩⟩
   ·subst hk
    have h0j:0<j:=by rw [hkj.out];decide
    have Ur:(0:Int)<(j:Int):=by omega
    obtain ⟨g,rfl,hg1,hg2,hgc⟩:=TL.out h0j
    obtain ⟨A0,c0,m0,hc0,hC0⟩:=hgc 0 h0j
    rw [←HEA.out] at m0 hc0 hC0
    have NZ:=anc hC0
    have zI:g≠w.heap.size+1:=by omega
    obtain ⟨an,Dl⟩:∃ n,a0.length=n:=⟨_,rfl⟩
    have QH:=anc Dl
    rw [Dl] at m0 hc0
    have h1j:1<j:=by rw [hkj.out];decide
    have af7:(1:Int)<(j:Int):=by omega
    obtain ⟨A1,c1,m1,hc1,ZJ⟩:=hgc 1 h1j
    rw [←HEB.out] at m1 hc1 ZJ
    have Oc:=anc ZJ
    obtain ⟨bn,ZK⟩:∃ n,b0.length=n:=⟨_,rfl⟩
    have KG:=anc ZK
    rw [ZK] at m1 hc1
    clear hgc hC0 Dl ZJ ZK
    have EX:=anc (Pj A0 A1 c0 c1 a0 b0 (by have:=HA6.out;omega) (by have:=iP.out;omega) (by rw [QH.out];exact hc0) wr.drew (S:=fun q=>w1.heap.size≤q∧q<wr.heap.size) NZ.out Oc.out (fun q hq=>hq.2))
    rw [QH.out,KG.out,show lC a0 b0=R from HL2.out.symm] at EX
    go_upto_region 26 with (fail)
    refine wp_region_held_drew (S:=fun w'=>∀ q,q<wr.heap.size→q≠w.heap.size+1→w'.heap[q]?=wr.heap[q]?) (by kernel_rfl) (fun q _ _=>rfl) (fun hHeld=>?_)
    refine wpAnyH_take (i:=0) (v:=.slice (some ⟨g,0,none⟩) j c') rfl (by kernel_rfl) (by kernel_rfl) (by kernel_rfl) (fun _ _ _ h=>h) (Or.inl ⟨by rfl,fun w1' hSw=>by (go_simp)⟩) (by assumption) ?_
    simp only [ane,anf,Act.put,anh,ani,anj]
    refine wpAnyH_take (i:=1) (v:=.pointer (some ⟨g,0,none⟩)) rfl (by kernel_rfl) (by kernel_rfl) (by kernel_rfl) (fun _ _ _ h=>h) (Or.inl ⟨by rfl,fun w1' hSw=>by (go_simp)⟩) (by assumption) ?_
    simp only [ane,ang,anf,Act.put,anh,ani,anj]
    refine wpAnyH_take (i:=2) (v:=.slice A0 an c0) rfl (by kernel_rfl) (by kernel_rfl) (by kernel_rfl) (fun _ _ _ h=>h) (Or.inl ⟨by rfl,fun w1' hSw=>by (have y0:=(anw (a:=⟨g,0,none⟩) (hSw g hg2 zI)).trans m0;go_simp)⟩) (by assumption) ?_
    simp only [ane,ang,anf,Act.put,anh,ani,anj]
    refine wpAnyH_take (i:=3) (v:=.slice (some ⟨g,0,none⟩) j c') rfl (by kernel_rfl) (by kernel_rfl) (by kernel_rfl) (fun _ _ _ h=>h) (Or.inl ⟨by rfl,fun w1' hSw=>by (go_simp)⟩) (by assumption) ?_
    simp only [ane,ang,anf,Act.put,anh,ani,anj]
    refine wpAnyH_take (i:=4) (v:=.pointer (some ⟨g,1,none⟩)) rfl (by kernel_rfl) (by kernel_rfl) (by kernel_rfl) (fun _ _ _ h=>h) (Or.inl ⟨by rfl,fun w1' hSw=>by (go_simp)⟩) (by assumption) ?_
    simp only [ane,ang,anf,Act.put,anh,ani,anj]
    refine wpAnyH_take (i:=5) (v:=.slice A1 bn c1) rfl (by kernel_rfl) (by kernel_rfl) (by kernel_rfl) (fun _ _ _ h=>h) (Or.inl ⟨by rfl,fun w1' hSw=>by (have y1:=(anw (a:=⟨g,1,none⟩) (hSw g hg2 zI)).trans m1;go_simp)⟩) (by assumption) ?_
    simp only [ane,ang,anf,Act.put,anh,ani,anj]
    refine wpAnyH_ready (rs:=[6]) (by kernel_rfl) (by simp) ?_
    refine AllReadyH.cons rfl (fun K hK=>?_) AllReadyH.nil
    simp only [ane,ang,anf]
    go_simp
    refine (EX.out).mono ?_
    rintro e w3 ⟨⟨A9,n9,c9,rfl,OI⟩,hb3⟩
    have IC:=anc OI
    have HB3:Hid (Below wr.heap.size wr w3):=anc ((anl wr.heap.size wr).drew.trans hb3)
    have HF3:=anc ((HB3.out.block (w.heap.size+1) QG).trans Lu.out)
    go_wp2_with fail
    have hS3:∀ q,q<wr.heap.size→q≠w.heap.size+1→w3.heap[q]?=wr.heap[q]?:=fun q hq _=>HB3.out.block q hq
    refine hK.out _ _ hS3 (fun hHeld=>?_)
    clear hK K hb3 OI
    obtain ⟨⟨r0,r1⟩,g0,g1⟩:=cell2 HF3.out
    refine wpAnyH_take (i:=7) (v:=.slice A9 n9 c9) rfl (by kernel_rfl) (by kernel_rfl) (by kernel_rfl) (fun _ _ _ h=>h) (Or.inl ⟨by rfl,fun w1' hSw=>by (go_simp)⟩) (by assumption) ?_
    simp only [ane,ang,anf,Act.put,anh,ani,anj]
    refine wpAnyH_take (i:=8) (v:=.agg #[.int .i64 R.2.1,.string R.2.2]) rfl (by kernel_rfl) (by kernel_rfl) (by kernel_rfl) (fun _ _ _ h=>h) (Or.inl ⟨by rfl,fun w1' hSw=>by (go_simp)⟩) (by assumption) ?_
    simp only [ane,ang,anf,Act.put,anh,ani,anj]
    refine wpAnyH_take (i:=9) (v:=.slice A9 n9 c9) rfl (by kernel_rfl) (by kernel_rfl) (by kernel_rfl) (fun _ _ _ h=>h) (Or.inl ⟨by rfl,fun w1' hSw=>by (go_simp)⟩) (by assumption) ?_
    simp only [ane,ang,anf,Act.put,anh,ani,anj]
    refine wpAnyH_ready (rs:=[10]) (by kernel_rfl) (by simp) ?_
    refine AllReadyH.cons rfl (fun K hK=>?_) AllReadyH.nil
    simp only [ane,ang,anf]
    go_simp
    refine hK.out _ _ (fun q hq hn=>(iC hn).trans (hS3 q hq hn)) (fun hHeld=>?_)
    clear hK K
    refine wpAnyH_done (by kernel_rfl) ?_ _
    go_wp2_with fail
    refine ano (aP rfl rfl rfl (aY HF3.out)) rfl ?_
    refine ⟨qM (B:=w1.heap.size) hs1 (by omega) (fun h=>?_),aQ (dC.out.trans (HB3.out.mono dC.out.size)) (Nat.le_succ _)⟩
    obtain ⟨y1,y2,y3⟩:=IC.out h
    exact ⟨y1,y2,y3.mono fun q hq=>⟨hq.1,anp hq.2 HB3.out.size⟩⟩
   ·subst hk
    have h0j:0<j:=by rw [hkj.out];decide
    have Ur:(0:Int)<(j:Int):=by omega
    obtain ⟨g,rfl,hg1,hg2,hgc⟩:=TL.out h0j
    obtain ⟨A0,c0,m0,hc0,hC0⟩:=hgc 0 h0j
    rw [←HEA.out] at m0 hc0 hC0
    have NZ:=anc hC0
    have zI:g≠w.heap.size+1:=by omega
    obtain ⟨an,Dl⟩:∃ n,a0.length=n:=⟨_,rfl⟩
    have QH:=anc Dl
    rw [Dl] at m0 hc0
    clear hgc hC0 Dl
    have wU:Hid (R=(a0,0,⟨#[]⟩)):=anc HL2.out
    obtain ⟨⟨r0,r1⟩,g0,g1⟩:=cell2 Lu.out
    go_wp2_with fail
    refine ano (aP rfl rfl rfl (aY Lu.out)) rfl ?_
    refine ⟨?_,aQ dC.out (Nat.le_succ _)⟩
    rw [wU.out]
    exact qM (R:=(a0,0,⟨#[]⟩)) (B:=w1.heap.size) hs1 (by omega) (fun h=>⟨QH.out.symm,hc0,NZ.out⟩)
   ·subst hk
    have h0j:0<j:=by rw [hkj.out];decide
    have Ur:(0:Int)<(j:Int):=by omega
    obtain ⟨g,rfl,hg1,hg2,hgc⟩:=TL.out h0j
    obtain ⟨A0,c0,m0,hc0,hC0⟩:=hgc 0 h0j
    rw [←HEA.out] at m0 hc0 hC0
    have NZ:=anc hC0
    have zI:g≠w.heap.size+1:=by omega
    obtain ⟨an,Dl⟩:∃ n,a0.length=n:=⟨_,rfl⟩
    have QH:=anc Dl
    rw [Dl] at m0 hc0
    clear hgc hC0 Dl
    have EX:=anc (ZC.out wr.drew dC.out.drew A0 c0 a0 HA6.out (NZ.out.to fun q hq=>hq.2))
    rw [QH.out,show iU a0 ag [] left=R from HL2.out.symm] at EX
    go_upto_region 28 with (fail)
    refine wp_region_held_drew (S:=fun w'=>∀ q,q<wr.heap.size→q≠w.heap.size+1→w'.heap[q]?=wr.heap[q]?) (by kernel_rfl) (fun q _ _=>rfl) (fun hHeld=>?_)
    refine wpAnyH_take (i:=0) (v:=(.agg #[.int .i64 7,.string nm,.slice ea ex.length ec,.slice ca cols.length cc,.slice la' left.length lc,.slice ra right.length rc,.slice ga ag.length gc,.slice ka j kc])) rfl (by kernel_rfl) (by kernel_rfl) (by kernel_rfl) (fun _ _ _ h=>h) (Or.inl ⟨by rfl,fun w1' hSw=>by (have y9:=az ((hSw w.heap.size hwp (by omega)).trans yT.out);obtain ⟨y0,y1,y2,y3,y4,y5,y6,y7,_,_,_,_,_,_,_,_⟩:=y9;go_simp)⟩) (by assumption) ?_
    simp only [ane,anf,Act.put,anh,ani,anj]
    refine wpAnyH_take (i:=1) (v:=.slice (some ⟨g,0,none⟩) j c') rfl (by kernel_rfl) (by kernel_rfl) (by kernel_rfl) (fun _ _ _ h=>h) (Or.inl ⟨by rfl,fun w1' hSw=>by (go_simp)⟩) (by assumption) ?_
    simp only [ane,ang,anf,Act.put,anh,ani,anj]
    refine wpAnyH_take (i:=2) (v:=.pointer (some ⟨g,0,none⟩)) rfl (by kernel_rfl) (by kernel_rfl) (by kernel_rfl) (fun _ _ _ h=>h) (Or.inl ⟨by rfl,fun w1' hSw=>by (go_simp)⟩) (by assumption) ?_
    simp only [ane,ang,anf,Act.put,anh,ani,anj]
    refine wpAnyH_take (i:=3) (v:=.slice A0 an c0) rfl (by kernel_rfl) (by kernel_rfl) (by kernel_rfl) (fun _ _ _ h=>h) (Or.inl ⟨by rfl,fun w1' hSw=>by (have y0:=(anw (a:=⟨g,0,none⟩) (hSw g hg2 zI)).trans m0;go_simp)⟩) (by assumption) ?_
    simp only [ane,ang,anf,Act.put,anh,ani,anj]
    refine wpAnyH_ready (rs:=[4]) (by kernel_rfl) (by simp) ?_
    refine AllReadyH.cons rfl (fun K hK=>?_) AllReadyH.nil
    simp only [ane,ang,anf]
    go_simp
    refine (EX.out).mono ?_
    rintro e w3 ⟨⟨A9,n9,c9,rfl,OI⟩,hb3⟩
    have IC:=anc OI
    have HB3:Hid (Below wr.heap.size wr w3):=anc ((anl wr.heap.size wr).drew.trans hb3)
    have HF3:=anc ((HB3.out.block (w.heap.size+1) QG).trans Lu.out)
    go_wp2_with fail
    have hS3:∀ q,q<wr.heap.size→q≠w.heap.size+1→w3.heap[q]?=wr.heap[q]?:=fun q hq _=>HB3.out.block q hq
    refine hK.out _ _ hS3 (fun hHeld=>?_)
    clear hK K hb3 OI
    obtain ⟨⟨r0,r1⟩,g0,g1⟩:=cell2 HF3.out
    refine wpAnyH_take (i:=5) (v:=.slice A9 n9 c9) rfl (by kernel_rfl) (by kernel_rfl) (by kernel_rfl) (fun _ _ _ h=>h) (Or.inl ⟨by rfl,fun w1' hSw=>by (go_simp)⟩) (by assumption) ?_
    simp only [ane,ang,anf,Act.put,anh,ani,anj]
    refine wpAnyH_take (i:=6) (v:=.agg #[.int .i64 R.2.1,.string R.2.2]) rfl (by kernel_rfl) (by kernel_rfl) (by kernel_rfl) (fun _ _ _ h=>h) (Or.inl ⟨by rfl,fun w1' hSw=>by (go_simp)⟩) (by assumption) ?_
    simp only [ane,ang,anf,Act.put,anh,ani,anj]
    refine wpAnyH_take (i:=7) (v:=.slice A9 n9 c9) rfl (by kernel_rfl) (by kernel_rfl) (by kernel_rfl) (fun _ _ _ h=>h) (Or.inl ⟨by rfl,fun w1' hSw=>by (go_simp)⟩) (by assumption) ?_
    simp only [ane,ang,anf,Act.put,anh,ani,anj]
    refine wpAnyH_ready (rs:=[8]) (by kernel_rfl) (by simp) ?_
    refine AllReadyH.cons rfl (fun K hK=>?_) AllReadyH.nil
    simp only [ane,ang,anf]
    go_simp
    refine hK.out _ _ (fun q hq hn=>(iC hn).trans (hS3 q hq hn)) (fun hHeld=>?_)
    clear hK K
    refine wpAnyH_done (by kernel_rfl) ?_ _
    go_wp2_with fail
    refine ano (aP rfl rfl rfl (aY HF3.out)) rfl ?_
    refine ⟨qM (B:=w1.heap.size) hs1 (by omega) (fun h=>?_),aQ (dC.out.trans (HB3.out.mono dC.out.size)) (Nat.le_succ _)⟩
    obtain ⟨y1,y2,y3⟩:=IC.out h
    exact ⟨y1,y2,y3.mono fun q hq=>⟨anv hs hq.1,hq.2⟩⟩
theorem Ut (D:List DM)(hDl:D.length≤1000)(hD6:∀ d∈D,d.cols.length≤6):∀ p,Nb D p:=P.ind (QF D hDl hD6)
def pU (w:World):Ending→World→Prop:=fun e w'=>(∃ b,e=.returned (.bool b))∧Below w.heap.size w w'
theorem sQ (l l':List ByteArray)(hn:l.length≤9223372036854775807)(hn':l'.length≤9223372036854775807)(A B:Option Addr)(c d:Nat)(w:World)(hA:Lies w (LT w) A (strs l))(hB:Lies w (LT w) B (strs l')) :
 Calls Tryz.prog 73 #[.slice A l.length c,.slice B l'.length d] w (pU w):=by
 have HA:=anc hA
 have HB:=anc hB
 obtain ⟨m,em⟩:∃ m,m=l.length:=⟨_,rfl⟩
 obtain ⟨m',Nc⟩:∃ m',m'=l'.length:=⟨_,rfl⟩
 have wF:=anc em
 have Nh:=anc Nc
 rw [←em] at hn ⊢
 rw [←Nc] at hn' ⊢
 clear hA hB em Nc
 by_cases hmm:m=m'
 ·subst hmm
  go_enter Tryz.func73,Tryz.ntmps73
  go_wp2_with fail
  go_loopw [13] (fun i wr=>∃ j:Nat,j≤m∧i=.int .i64 j∧Below w.heap.size w wr) (fun i _=>m-(intOf i).toNat)
  case atStart=>exact ⟨0,Nat.zero_le _,rfl,anl _ _⟩
  case round =>
   obtain ⟨j,hj,rfl,hb⟩:=hrel
   by_cases hlt:j<m
   ·obtain ⟨x,hx⟩:=gu wF.out hlt
    obtain ⟨y,hy⟩:=gu Nh.out hlt
    obtain ⟨b,o,rfl,h1,c1⟩:=Bi HA.out hx
    obtain ⟨b2,o2,rfl,h2,c2⟩:=Bi HB.out hy
    have c1':=(hb.cell (p:=⟨b,o+j,none⟩) h1).trans c1
    have c2':=(hb.cell (p:=⟨b2,o2+j,none⟩) h2).trans c2
    have lW:=anc hb
    clear c1 c2 hx hy hb
    go_upto_region 6 with (fail)
    go_quiet (fail)
    go_wp2_with fail
    case roundEnd=>exact ⟨⟨j+1,hlt,by simp,below_drewN lW.out _⟩,mD hlt⟩
    go_ret
    exact ⟨⟨_,rfl⟩,below_drewN lW.out _⟩
   ·have lW:=anc hb
    go_wp2_with fail
    go_ret
    exact ⟨⟨_,rfl⟩,lW.out⟩
 ·have hmn:¬((m:Int)=(m':Int)):=by omega
  go_enter Tryz.func73,Tryz.ntmps73
  go_wp2_with fail
  go_ret
  exact ⟨⟨_,rfl⟩,anl _ _⟩
def G6 (e:E):Prop:=∀ (e':E)(A B:Option Addr)(c d:Nat)(w:World),eQ w w.heap.size A e.kids→eQ w w.heap.size B e'.kids→Calls Tryz.prog 72 #[e.val A c,e'.val B d] w (pU w)
theorem FW (l l':List E)(hM:∀ e∈l,G6 e)(A B:Option Addr)(c d:Nat)(w:World)(hA:eQ w w.heap.size A l)(hB:eQ w w.heap.size B l') :
 Calls Tryz.prog 71 #[.slice A l.length c,.slice B l'.length d,.func (.func 72) #[] #[]] w (pU w):=by
 have hn:=hA.len
 have hn':=hB.len
 have HA:=anc hA.cu
 have HB:=anc hB.cu
 have HM:=anc hM
 obtain ⟨m,em⟩:∃ m,m=l.length:=⟨_,rfl⟩
 obtain ⟨m',Nc⟩:∃ m',m'=l'.length:=⟨_,rfl⟩
 have wF:=anc em
 have Nh:=anc Nc
 rw [←em] at hn ⊢
 rw [←Nc] at hn' ⊢
 clear hA hB em Nc hM
 by_cases hmm:m=m'
 ·subst hmm
  go_enter Tryz.func71,Tryz.ntmps71
  go_wp2_with fail
  go_loopw [17] (fun i wr=>∃ j:Nat,j≤m∧i=.int .i64 j∧Below w.heap.size w wr) (fun i _=>m-(intOf i).toNat)
  case atStart=>exact ⟨0,Nat.zero_le _,rfl,anl _ _⟩
  case round =>
   obtain ⟨j,hj,rfl,hb⟩:=hrel
   by_cases hlt:j<m
   ·obtain ⟨x,hx⟩:=gu wF.out hlt
    obtain ⟨y,hy⟩:=gu Nh.out hlt
    obtain ⟨b,o,A',c',rfl,hb1,a0,a1,a2,a3,hKa⟩:=HA.out _ hb j x hx
    obtain ⟨wx,dN⟩:∃ wx,wx=wr.alloc (.cells #[.int .i64 x.k,.string x.s,.int .i64 x.n,.slice A' x.kids.length c'] 38):=⟨_,rfl⟩
    have hbx:Below wr.heap.size wr wx:=by rw [dN];exact (anl _ _).alloc (ank _) _
    have hnx:wx.heap[wr.heap.size]?=some (.cells #[.int .i64 x.k,.string x.s,.int .i64 x.n,.slice A' x.kids.length c'] 38 (0,0)):=by rw [dN];exact anm wr _
    have hbw:Below w.heap.size w wx:=hb.trans (hbx.mono hb.size)
    obtain ⟨b2,o2,B',d',rfl,hb2,b0,b1,b2',b3,hKb⟩:=HB.out _ hbw j y hy
    obtain ⟨wy,yH⟩:∃ wy,wy=wx.alloc (.cells #[.int .i64 y.k,.string y.s,.int .i64 y.n,.slice B' y.kids.length d'] 38):=⟨_,rfl⟩
    have hby:Below wx.heap.size wx wy:=by rw [yH];exact (anl _ _).alloc (ank _) _
    have hny:wy.heap[wx.heap.size]?=some (.cells #[.int .i64 y.k,.string y.s,.int .i64 y.n,.slice B' y.kids.length d'] 38 (0,0)):=by rw [yH];exact anm wx _
    have hnx2:=(hby.block _ (Array.getElem?_eq_some_iff.1 hnx).1).trans hnx
    have BV:=anc (hbw.trans (hby.mono hbw.size))
    have jq:=anc (HM.out x (anq hx) y A' B' c' d' wy ((hKa.low (hbx.trans (hby.mono hbx.size))).more (hbx.trans (hby.mono hbx.size)).size) ((hKb.low hby).more hby.size))
    have jM:=anc dN
    have Qc:=anc yH
    clear dN yH hbx hby hbw hnx hx hy hKa hKb
    obtain ⟨xk,xs,xn,xl⟩:=x
    obtain ⟨yk,ys,yn,yl⟩:=y
    simp only [E.val,E.k,E.s,E.n,E.kids] at a0 a1 a2 a3 b0 b1 b2' b3 jq jM Qc hnx2 hny
    generalize xl.length=xm at *
    generalize yl.length=ym at *
    obtain ⟨⟨e0,e1,e2,e3⟩,_,_,_,_⟩:=bQ hnx2
    obtain ⟨⟨f0,f1,f2,f3⟩,_,_,_,_⟩:=bQ hny
    go_upto_region 6 with (fail)
    rw [←jM.out]
    go_upto_region 7 with (fail)
    rw [←Qc.out]
    go_wp2_with fail
    refine (jq.out).mono ?_
    rintro e w3 ⟨⟨bb,rfl⟩,hb3⟩
    have HB3:=anc (BV.out.trans (hb3.mono BV.out.size))
    clear hb3
    cases bb
    ·go_wp2_with fail
     go_ret
     exact ⟨⟨_,rfl⟩,HB3.out⟩
    ·go_wp2_with fail
     go_roundw
     case measure=>exact mD hlt
     case rel=>exact ⟨j+1,hlt,by simp,HB3.out⟩
   ·have lW:=anc hb
    go_wp2_with fail
    go_ret
    exact ⟨⟨_,rfl⟩,lW.out⟩
 ·have hmn:¬((m:Int)=(m':Int)):=by omega
  go_enter Tryz.func71,Tryz.ntmps71
  go_wp2_with fail
  go_ret
  exact ⟨⟨_,rfl⟩,anl _ _⟩
theorem JF (k:Int)(s:ByteArray)(n:Int)(l:List E)(hM:∀ e∈l,G6 e):G6 (.mk k s n l):=by
 intro e' A B c d w hA hB
 obtain ⟨k',s',n',l'⟩:=e'
 simp only [E.val,E.k,E.s,E.n,E.kids] at hA hB ⊢
 obtain ⟨w1,aK⟩:∃ w1,w1=(w.alloc (.cells #[.int .i64 k,.string s,.int .i64 n,.slice A l.length c] 38)).alloc (.cells #[.int .i64 k',.string s',.int .i64 n',.slice B l'.length d] 38):=⟨_,rfl⟩
 have hb1:Below w.heap.size w w1:=by rw [aK];exact ((anl _ _).alloc (ank _) _).alloc (by simp) _
 have HC:=anc (FW l l' hM A B c d w1 ((hA.low hb1).more hb1.size) ((hB.low hb1).more hb1.size))
 have HB1:=anc hb1
 have hx1:w1.heap[w.heap.size]?=some (.cells #[.int .i64 k,.string s,.int .i64 n,.slice A l.length c] 38 (0,0)):=by
  rw [aK]
  exact (ant _ _ _ (by simp)).trans (anm w _)
 have hx2:w1.heap[w.heap.size+1]?=some (.cells #[.int .i64 k',.string s',.int .i64 n',.slice B l'.length d] 38 (0,0)):=by
  rw [aK]
  have:=anm (w.alloc (.cells #[.int .i64 k,.string s,.int .i64 n,.slice A l.length c] 38)) (.cells #[.int .i64 k',.string s',.int .i64 n',.slice B l'.length d] 38)
  simpa using this
 have HW1:=anc aK
 generalize l.length=m at *
 generalize l'.length=m' at *
 clear hA hB hM aK hb1
 obtain ⟨⟨e0,e1,e2,e3⟩,_,_,_,_⟩:=bQ hx1
 obtain ⟨⟨f0,f1,f2,f3⟩,_,_,_,_⟩:=bQ hx2
 go_enter Tryz.func72,Tryz.ntmps72
 go_upto_region 1 with (fail)
 rw [←HW1.out]
 by_cases h1:k=k'
 ·subst h1
  cases h2:(s.toList==s'.toList)
  ·go_wp2_with fail
   go_ret
   exact ⟨⟨_,rfl⟩,HB1.out⟩
  ·by_cases h3:n=n'
   ·subst h3
    go_wp2_with fail
    refine (HC.out).mono ?_
    rintro e w3 ⟨⟨bb,rfl⟩,hb3⟩
    have HB3:=anc (HB1.out.trans (hb3.mono HB1.out.size))
    clear hb3
    go_wp2_with fail
    go_ret
    exact ⟨⟨_,rfl⟩,HB3.out⟩
   ·have h3':(n==n')=false:=beq_eq_false_iff_ne.2 h3
    go_wp2_with fail
    go_ret
    exact ⟨⟨_,rfl⟩,HB1.out⟩
 ·have h1':(k==k')=false:=beq_eq_false_iff_ne.2 h1
  go_wp2_with fail
  go_ret
  exact ⟨⟨_,rfl⟩,HB1.out⟩
theorem Nj:∀ e,G6 e:=E.ind JF
theorem Uu (xn xf xc yn yf yc:ByteArray):∃ b:Bool,∀ w:World,
 (binOp .neq 46 (.agg #[.string xn,.string xf,.string xc]) (.agg #[.string yn,.string yf,.string yc])).run Tryz.prog w=.ok (.bool b) w:=by
 have hS:Tryz.prog.underlying 46=some (.struct (Tryz.prog.fieldsOf 46)):=by kernel_rfl
 have hp:Tryz.prog.stoodInHeld 46=false:=by kernel_rfl
 have u3:=Tryz.underlying9
 cases h1:(xn.toList==yn.toList) <;> cases h2:(xf.toList==yf.toList) <;> cases h3:(xc.toList==yc.toList)
 all_goals first
  | (refine ⟨true,fun w=>?_⟩;rw [run_neq_struct,show (10000:Nat)=9999+1 from rfl,run_equalIn_agg w 9999 _ _ _ hS hp];simp only [Program.fieldsOf,Tryz.underlying46];go_simp;done)
  | (refine ⟨false,fun w=>?_⟩;rw [run_neq_struct,show (10000:Nat)=9999+1 from rfl,run_equalIn_agg w 9999 _ _ _ hS hp];simp only [Program.fieldsOf,Tryz.underlying46];go_simp;done)
theorem Uw (l l':List Ag)(hn:l.length≤9223372036854775807)(hn':l'.length≤9223372036854775807)(A B:Option Addr)(c d:Nat)(w:World)(hA:Lies w (LT w) A (fB l))(hB:Lies w (LT w) B (fB l')) :
 Calls Tryz.prog 74 #[.slice A l.length c,.slice B l'.length d] w (pU w):=by
 have HA:=anc hA
 have HB:=anc hB
 obtain ⟨m,em⟩:∃ m,m=l.length:=⟨_,rfl⟩
 obtain ⟨m',Nc⟩:∃ m',m'=l'.length:=⟨_,rfl⟩
 have wF:=anc em
 have Nh:=anc Nc
 rw [←em] at hn ⊢
 rw [←Nc] at hn' ⊢
 clear hA hB em Nc
 by_cases hmm:m=m'
 ·subst hmm
  go_enter Tryz.func74,Tryz.ntmps74
  go_wp2_with fail
  go_loopw [13] (fun i wr=>∃ j:Nat,j≤m∧i=.int .i64 j∧Below w.heap.size w wr) (fun i _=>m-(intOf i).toNat)
  case atStart=>exact ⟨0,Nat.zero_le _,rfl,anl _ _⟩
  case round =>
   obtain ⟨j,hj,rfl,hb⟩:=hrel
   by_cases hlt:j<m
   ·obtain ⟨x,hx⟩:=gu wF.out hlt
    obtain ⟨y,hy⟩:=gu Nh.out hlt
    obtain ⟨b,o,rfl,h1,a0,a1,a2⟩:=yj HA.out hx
    obtain ⟨b2,o2,rfl,h2,b0,b1,b2'⟩:=yj HB.out hy
    have c0:=(hb.cell (p:=⟨b,o+j*3,none⟩) h1).trans a0
    have c1:=(hb.cell (p:=⟨b,o+j*3+1,none⟩) h1).trans a1
    have c2:=(hb.cell (p:=⟨b,o+j*3+2,none⟩) h1).trans a2
    have d0:=(hb.cell (p:=⟨b2,o2+j*3,none⟩) h2).trans b0
    have d1:=(hb.cell (p:=⟨b2,o2+j*3+1,none⟩) h2).trans b1
    have d2:=(hb.cell (p:=⟨b2,o2+j*3+2,none⟩) h2).trans b2'
    have lW:=anc hb
    obtain ⟨an,af,ac⟩:=x
    obtain ⟨yn,yf,yc⟩:=y
    obtain ⟨bb,hq⟩:=Uu an af ac yn yf yc
    clear a0 a1 a2 b0 b1 b2' hx hy hb
    go_upto_region 6 with (fail)
    cases bb
    ·go_quiet (fail)
     go_wp2_with fail
     go_roundw
     case measure=>exact mD hlt
     case rel=>exact ⟨j+1,hlt,by simp,below_drewN lW.out _⟩
    ·go_quiet (fail)
     go_wp2_with fail
     go_ret
     exact ⟨⟨_,rfl⟩,below_drewN lW.out _⟩
   ·have lW:=anc hb
    go_wp2_with fail
    go_ret
    exact ⟨⟨_,rfl⟩,lW.out⟩
 ·have hmn:¬((m:Int)=(m':Int)):=by omega
  go_enter Tryz.func74,Tryz.ntmps74
  go_wp2_with fail
  go_ret
  exact ⟨⟨_,rfl⟩,anl _ _⟩
def Bj (p:P):Prop:=∀ (q:P)(a b:PA)(w:World),jS w (LT w) p a→jS w (LT w) q b→Calls Tryz.prog 35 #[p.val a,q.val b] w (pU w)
theorem QI (l l':List P)(hM:∀ e∈l,Bj e)(A B:Option Addr)(c d:Nat)(w:World)(hn:l.length≤9223372036854775807)(hn':l'.length≤9223372036854775807)(hA:yQ w (LT w) A l)(hB:yQ w (LT w) B l') :
 Calls Tryz.prog 75 #[.slice A l.length c,.slice B l'.length d,.func (.func 35) #[] #[]] w (pU w):=by
 have HA:=anc hA
 have HB:=anc hB
 have HM:=anc hM
 obtain ⟨m,em⟩:∃ m,m=l.length:=⟨_,rfl⟩
 obtain ⟨m',Nc⟩:∃ m',m'=l'.length:=⟨_,rfl⟩
 have wF:=anc em
 have Nh:=anc Nc
 rw [←em] at hn ⊢
 rw [←Nc] at hn' ⊢
 clear hA hB em Nc hM
 by_cases hmm:m=m'
 ·subst hmm
  go_enter Tryz.func75,Tryz.ntmps75
  go_wp2_with fail
  go_loopw [17] (fun i wr=>∃ j:Nat,j≤m∧i=.int .i64 j∧Below w.heap.size w wr) (fun i _=>m-(intOf i).toNat)
  case atStart=>exact ⟨0,Nat.zero_le _,rfl,anl _ _⟩
  case round =>
   obtain ⟨j,hj,rfl,hb⟩:=hrel
   by_cases hlt:j<m
   ·obtain ⟨x,hx⟩:=gu wF.out hlt
    obtain ⟨y,hy⟩:=gu Nh.out hlt
    obtain ⟨b,o,a1,rfl,hb1,hc1,hp1⟩:=HA.out.cu hb hx
    have m0:=hc1 0 _ rfl
    have m1:=hc1 1 _ rfl
    have m2:=hc1 2 _ rfl
    have m3:=hc1 3 _ rfl
    have m4:=hc1 4 _ rfl
    have m5:=hc1 5 _ rfl
    have m6:=hc1 6 _ rfl
    have m7:=hc1 7 _ rfl
    rw [Nat.add_zero] at m0
    obtain ⟨wx,dN⟩:∃ wx,wx=wr.alloc (.cells #[.int .i64 x.k,.string x.nm,.slice a1.ea x.ex.length a1.ec,.slice a1.ca x.cols.length a1.cc,.slice a1.la x.left.length a1.lc,.slice a1.ra x.right.length a1.rc,.slice a1.ga x.ag.length a1.gc,.slice a1.ka x.kids.length a1.kc] 27):=⟨_,rfl⟩
    have hbx:Below wr.heap.size wr wx:=by rw [dN];exact (anl _ _).alloc (ank _) _
    have hnx:wx.heap[wr.heap.size]?=some (.cells #[.int .i64 x.k,.string x.nm,.slice a1.ea x.ex.length a1.ec,.slice a1.ca x.cols.length a1.cc,.slice a1.la x.left.length a1.lc,.slice a1.ra x.right.length a1.rc,.slice a1.ga x.ag.length a1.gc,.slice a1.ka x.kids.length a1.kc] 27 (0,0)):=by rw [dN];exact anm wr _
    have hbw:Below w.heap.size w wx:=hb.trans (hbx.mono hb.size)
    obtain ⟨b2,o2,a2,rfl,hb2,hc2,hp2⟩:=HB.out.cu hbw hy
    have k0:=hc2 0 _ rfl
    have k1:=hc2 1 _ rfl
    have k2:=hc2 2 _ rfl
    have k3:=hc2 3 _ rfl
    have k4:=hc2 4 _ rfl
    have k5:=hc2 5 _ rfl
    have k6:=hc2 6 _ rfl
    have k7:=hc2 7 _ rfl
    rw [Nat.add_zero] at k0
    obtain ⟨wy,yH⟩:∃ wy,wy=wx.alloc (.cells #[.int .i64 y.k,.string y.nm,.slice a2.ea y.ex.length a2.ec,.slice a2.ca y.cols.length a2.cc,.slice a2.la y.left.length a2.lc,.slice a2.ra y.right.length a2.rc,.slice a2.ga y.ag.length a2.gc,.slice a2.ka y.kids.length a2.kc] 27):=⟨_,rfl⟩
    have hby:Below wx.heap.size wx wy:=by rw [yH];exact (anl _ _).alloc (ank _) _
    have hny:wy.heap[wx.heap.size]?=some (.cells #[.int .i64 y.k,.string y.nm,.slice a2.ea y.ex.length a2.ec,.slice a2.ca y.cols.length a2.cc,.slice a2.la y.left.length a2.lc,.slice a2.ra y.right.length a2.rc,.slice a2.ga y.ag.length a2.gc,.slice a2.ka y.kids.length a2.kc] 27 (0,0)):=by rw [yH];exact anm wx _
    have hnx2:=(hby.block _ (Array.getElem?_eq_some_iff.1 hnx).1).trans hnx
    have BV:=anc (hbw.trans (hby.mono hbw.size))
    have hcl:=HM.out x (anq hx) y a1 a2 wy (hp1.low (hbx.trans (hby.mono hbx.size))) (hp2.low hby)
    simp only [P.val] at hcl
    have jq:=anc hcl
    have jM:=anc dN
    have Qc:=anc yH
    clear dN yH hbx hby hbw hnx hx hy hc1 hc2 hp1 hp2 hcl
    generalize x.k=xk at *
    generalize x.nm=Kv at *
    generalize x.ex.length=x1 at *
    generalize x.cols.length=x2 at *
    generalize x.left.length=x3 at *
    generalize x.right.length=x4 at *
    generalize x.ag.length=x5 at *
    generalize x.kids.length=x6 at *
    generalize y.k=v0 at *
    generalize y.nm=v1 at *
    generalize y.ex.length=v2 at *
    generalize y.cols.length=v3 at *
    generalize y.left.length=v4 at *
    generalize y.right.length=v5 at *
    generalize y.ag.length=v6 at *
    generalize y.kids.length=v7 at *
    obtain ⟨qa,qb,qc,qd,qe,qf,qg,qh,qi,qj,qk,ql⟩:=a1
    obtain ⟨ra,rb,rc,rd,re,rf,rg,rh,ri,rj,rk,rl⟩:=a2
    simp only at m0 m1 m2 m3 m4 m5 m6 m7 k0 k1 k2 k3 k4 k5 k6 k7 jq jM Qc hnx2 hny
    obtain ⟨z0,z1,z2,z3,z4,z5,z6,z7,_,_,_,_,_,_,_,_⟩:=az hnx2
    obtain ⟨y0,y1,y2,y3,y4,y5,y6,y7,_,_,_,_,_,_,_,_⟩:=az hny
    go_upto_region 6 with (fail)
    rw [←jM.out]
    go_upto_region 7 with (fail)
    rw [←Qc.out]
    go_wp2_with fail
    refine (jq.out).mono ?_
    rintro e w3 ⟨⟨bb,rfl⟩,hb3⟩
    have HB3:=anc (BV.out.trans (hb3.mono BV.out.size))
    clear hb3
    cases bb
    ·go_wp2_with fail
     go_ret
     exact ⟨⟨_,rfl⟩,HB3.out⟩
    ·go_wp2_with fail
     go_roundw
     case measure=>exact mD hlt
     case rel=>exact ⟨j+1,hlt,by simp,HB3.out⟩
   ·have lW:=anc hb
    go_wp2_with fail
    go_ret
    exact ⟨⟨_,rfl⟩,lW.out⟩
 ·have hmn:¬((m:Int)=(m':Int)):=by omega
  go_enter Tryz.func75,Tryz.ntmps75
  go_wp2_with fail
  go_ret
  exact ⟨⟨_,rfl⟩,anl _ _⟩
theorem Nk (k:Int)(nm:ByteArray)(ex:List E)(cols left right:List ByteArray)(ag:List Ag)(kids:List P)(hM:∀ p∈kids,Bj p):Bj (.mk k nm ex cols left right ag kids):=by
 intro q a b w hA hB
 obtain ⟨k',YF,ex',JG,left',right',ag',JH⟩:=q
 obtain ⟨⟨hE,hC,TC,hR,hG,q1,q2,⟨q3,-⟩,⟨q4,-⟩,q5⟩,Ih⟩:=hA
 obtain ⟨⟨gE,gC,Zz,gR,gG,p1,p2,⟨p3,-⟩,⟨p4,-⟩,p5⟩,YD⟩:=hB
 obtain ⟨ea,ec,ca,cc,la,lc,ra,rc,ga,gc,ka,kc⟩:=a
 obtain ⟨Xa,Xb,ca',cc',la',Xc,Xd,rc',ga',gc',Xe,Xf⟩:=b
 simp only [P.val,P.k,P.nm,P.ex,P.cols,P.left,P.right,P.ag,P.kids] at hE hC TC hR hG Ih gE gC Zz gR gG YD q1 q2 q3 q4 q5 p1 p2 p3 p4 p5 ⊢
 have q6:=Ih.len
 have p6:=YD.len
 obtain ⟨w1,aK⟩:∃ w1,w1=(w.alloc (.cells #[.int .i64 k,.string nm,.slice ea ex.length ec,.slice ca cols.length cc,.slice la left.length lc,.slice ra right.length rc,.slice ga ag.length gc,.slice ka kids.length kc] 27)).alloc (.cells #[.int .i64 k',.string YF,.slice Xa ex'.length Xb,.slice ca' JG.length cc',.slice la' left'.length Xc,.slice Xd right'.length rc',.slice ga' ag'.length gc',.slice Xe JH.length Xf] 27):=⟨_,rfl⟩
 have hb1:Below w.heap.size w w1:=by rw [aK];exact ((anl _ _).alloc (ank _) _).alloc (by simp) _
 have hs1:w1.heap.size=w.heap.size+2:=by rw [aK];simp
 have gU:Hid (w1.heap[w.heap.size]?=some (.cells #[.int .i64 k,.string nm,.slice ea ex.length ec,.slice ca cols.length cc,.slice la left.length lc,.slice ra right.length rc,.slice ga ag.length gc,.slice ka kids.length kc] 27 (0,0))):=anc (by
  rw [aK]
  exact (ant _ _ _ (by simp)).trans (anm w _))
 have dG:Hid (w1.heap[w.heap.size+1]?=some (.cells #[.int .i64 k',.string YF,.slice Xa ex'.length Xb,.slice ca' JG.length cc',.slice la' left'.length Xc,.slice Xd right'.length rc',.slice ga' ag'.length gc',.slice Xe JH.length Xf] 27 (0,0))):=anc (by
  rw [aK]
  have:=anm (w.alloc (.cells #[.int .i64 k,.string nm,.slice ea ex.length ec,.slice ca cols.length cc,.slice la left.length lc,.slice ra right.length rc,.slice ga ag.length gc,.slice ka kids.length kc] 27)) (.cells #[.int .i64 k',.string YF,.slice Xa ex'.length Xb,.slice ca' JG.length cc',.slice la' left'.length Xc,.slice Xd right'.length rc',.slice ga' ag'.length gc',.slice Xe JH.length Xf] 27)
  simpa using this)
 have hw:∀ w',Below w1.heap.size w1 w'→Below w.heap.size w w':=fun w' h=>hb1.trans (h.mono hb1.size)
 have hlo:∀ w',Below w1.heap.size w1 w'→∀ A vs,Lies w (LT w) A vs→Lies w' (LT w') A vs:=fun w' h A vs hl=>(hl.kept fun k hk=>(hw w' h).block k hk).mono fun k hk=>anp hk (hw w' h).size
 have H2:=anc (fun w' (h:Below w1.heap.size w1 w')=>FW ex ex' (fun e _=>Nj e) ea Xa ec Xb w' (((hE.to fun k h=>h).low (hw w' h)).more (hw w' h).size) (((gE.to fun k h=>h).low (hw w' h)).more (hw w' h).size))
 have H3:=anc (fun w' (h:Below w1.heap.size w1 w')=>sQ cols JG q2 p2 ca ca' cc cc' w' (hlo w' h _ _ hC) (hlo w' h _ _ gC))
 have H4:=anc (fun w' (h:Below w1.heap.size w1 w')=>sQ left left' q3 p3 la la' lc Xc w' (hlo w' h _ _ TC) (hlo w' h _ _ Zz))
 have H5:=anc (fun w' (h:Below w1.heap.size w1 w')=>sQ right right' q4 p4 ra Xd rc rc' w' (hlo w' h _ _ hR) (hlo w' h _ _ gR))
 have H6:=anc (fun w' (h:Below w1.heap.size w1 w')=>Uw ag ag' q5 p5 ga ga' gc gc' w' (hlo w' h _ _ hG) (hlo w' h _ _ gG))
 have H7:=anc (fun w' (h:Below w1.heap.size w1 w')=>QI kids JH hM ka Xe kc Xf w' q6 p6 ((Ih.kept fun k hk=>(hw w' h).block k hk).mono fun k hk=>anp hk (hw w' h).size) ((YD.kept fun k hk=>(hw w' h).block k hk).mono fun k hk=>anp hk (hw w' h).size))
 have HB1:=anc hb1
 have HW1:=anc aK
 have hz1:w.heap.size<w1.heap.size:=by omega
 have hz2:w.heap.size+1<w1.heap.size:=by omega
 generalize ex.length=n1 at *
 generalize cols.length=n2 at *
 generalize left.length=n3 at *
 generalize right.length=n4 at *
 generalize ag.length=n5 at *
 generalize kids.length=n6 at *
 generalize ex'.length=o1 at *
 generalize JG.length=o2 at *
 generalize left'.length=o3 at *
 generalize right'.length=o4 at *
 generalize ag'.length=o5 at *
 generalize JH.length=o6 at *
 clear p1 p2 p3 p4 p5 p6 hE hC TC hR hG Ih gE gC Zz gR gG YD q1 q2 q3 q4 q5 q6 aK hb1 hs1 hw hlo hM
 obtain ⟨z0,z1,z2,z3,z4,z5,z6,z7,_,_,_,_,_,_,_,_⟩:=az gU.out
 obtain ⟨y0,y1,y2,y3,y4,y5,y6,y7,_,_,_,_,_,_,_,_⟩:=az dG.out
 go_enter Tryz.func35,Tryz.ntmps35
 go_upto_region 1 with (fail)
 rw [←HW1.out]
 by_cases h1:k=k'
 ·subst h1
  cases h2:(nm.toList==YF.toList)
  ·go_wp2_with fail
   go_ret
   exact ⟨⟨_,rfl⟩,HB1.out⟩
  ·go_wp2_with fail
   refine (H2.out w1 (anl _ _)).mono ?_
   rintro e w2 ⟨⟨bb,rfl⟩,hb2⟩
   have B2:=anc hb2
   have C2:=anc ((hb2.block _ hz1).trans gU.out)
   have D2:=anc ((hb2.block _ hz2).trans dG.out)
   clear hb2 z0 z1 z2 z3 z4 z5 z6 z7 y0 y1 y2 y3 y4 y5 y6 y7
   obtain ⟨z0,z1,z2,z3,z4,z5,z6,z7,_,_,_,_,_,_,_,_⟩:=az C2.out
   obtain ⟨y0,y1,y2,y3,y4,y5,y6,y7,_,_,_,_,_,_,_,_⟩:=az D2.out
   obtain rfl | rfl:bb=false∨bb=true:=by cases bb <;> simp
   ·go_wp2_with fail
    go_ret
    exact ⟨⟨_,rfl⟩,HB1.out.trans (B2.out.mono HB1.out.size)⟩
   go_wp2_with fail
   refine (H3.out w2 B2.out).mono ?_
   rintro e w3 ⟨⟨bb,rfl⟩,hb2⟩
   have B3:=anc (B2.out.trans (hb2.mono B2.out.size))
   clear hb2 z0 z1 z2 z3 z4 z5 z6 z7 y0 y1 y2 y3 y4 y5 y6 y7
   obtain ⟨z0,z1,z2,z3,z4,z5,z6,z7,_,_,_,_,_,_,_,_⟩:=az ((B3.out.block _ hz1).trans gU.out)
   obtain ⟨y0,y1,y2,y3,y4,y5,y6,y7,_,_,_,_,_,_,_,_⟩:=az ((B3.out.block _ hz2).trans dG.out)
   obtain rfl | rfl:bb=false∨bb=true:=by cases bb <;> simp
   ·go_wp2_with fail
    go_ret
    exact ⟨⟨_,rfl⟩,HB1.out.trans (B3.out.mono HB1.out.size)⟩
   go_wp2_with fail
   refine (H4.out w3 B3.out).mono ?_
   rintro e w4 ⟨⟨bb,rfl⟩,hb2⟩
   have B4:=anc (B3.out.trans (hb2.mono B3.out.size))
   clear hb2 z0 z1 z2 z3 z4 z5 z6 z7 y0 y1 y2 y3 y4 y5 y6 y7
   obtain ⟨z0,z1,z2,z3,z4,z5,z6,z7,_,_,_,_,_,_,_,_⟩:=az ((B4.out.block _ hz1).trans gU.out)
   obtain ⟨y0,y1,y2,y3,y4,y5,y6,y7,_,_,_,_,_,_,_,_⟩:=az ((B4.out.block _ hz2).trans dG.out)
   obtain rfl | rfl:bb=false∨bb=true:=by cases bb <;> simp
   ·go_wp2_with fail
    go_ret
    exact ⟨⟨_,rfl⟩,HB1.out.trans (B4.out.mono HB1.out.size)⟩
   go_wp2_with fail
   refine (H5.out w4 B4.out).mono ?_
   rintro e w5 ⟨⟨bb,rfl⟩,hb2⟩
   have B5:=anc (B4.out.trans (hb2.mono B4.out.size))
   clear hb2 z0 z1 z2 z3 z4 z5 z6 z7 y0 y1 y2 y3 y4 y5 y6 y7
   obtain ⟨z0,z1,z2,z3,z4,z5,z6,z7,_,_,_,_,_,_,_,_⟩:=az ((B5.out.block _ hz1).trans gU.out)
   obtain ⟨y0,y1,y2,y3,y4,y5,y6,y7,_,_,_,_,_,_,_,_⟩:=az ((B5.out.block _ hz2).trans dG.out)
   obtain rfl | rfl:bb=false∨bb=true:=by cases bb <;> simp
   ·go_wp2_with fail
    go_ret
    exact ⟨⟨_,rfl⟩,HB1.out.trans (B5.out.mono HB1.out.size)⟩
   go_wp2_with fail
   refine (H6.out w5 B5.out).mono ?_
   rintro e w6 ⟨⟨bb,rfl⟩,hb2⟩
   have B6:=anc (B5.out.trans (hb2.mono B5.out.size))
   clear hb2 z0 z1 z2 z3 z4 z5 z6 z7 y0 y1 y2 y3 y4 y5 y6 y7
   obtain ⟨z0,z1,z2,z3,z4,z5,z6,z7,_,_,_,_,_,_,_,_⟩:=az ((B6.out.block _ hz1).trans gU.out)
   obtain ⟨y0,y1,y2,y3,y4,y5,y6,y7,_,_,_,_,_,_,_,_⟩:=az ((B6.out.block _ hz2).trans dG.out)
   obtain rfl | rfl:bb=false∨bb=true:=by cases bb <;> simp
   ·go_wp2_with fail
    go_ret
    exact ⟨⟨_,rfl⟩,HB1.out.trans (B6.out.mono HB1.out.size)⟩
   go_wp2_with fail
   refine (H7.out w6 B6.out).mono ?_
   rintro e w7 ⟨⟨bb,rfl⟩,hb2⟩
   have B7:=anc (HB1.out.trans ((B6.out.trans (hb2.mono B6.out.size)).mono HB1.out.size))
   clear hb2
   go_wp2_with fail
   go_ret
   exact ⟨⟨_,rfl⟩,B7.out⟩
 ·have h1':(k==k')=false:=beq_eq_false_iff_ne.2 h1
  go_wp2_with fail
  go_ret
  exact ⟨⟨_,rfl⟩,HB1.out⟩
theorem QJ:∀ p,Bj p:=P.ind Nk
theorem Dn (c:UInt8)(w:World):Calls Tryz.prog 96 #[.int .u8 (c.toNat:Int)] w fun e w'=>e=.returned (.bool (jT c))∧w=w':=by
 unfold jT
 cases a1:decide (97≤(c.toNat:Int))
 ·go_enter Tryz.func96,Tryz.ntmps96
  go_wp2
  go_ret
  exact ⟨rfl,rfl⟩
 ·cases a2:decide ((c.toNat:Int)≤122)
  all_goals
   go_enter Tryz.func96,Tryz.ntmps96
   go_wp2
   go_ret
   exact ⟨rfl,rfl⟩
theorem FX (c:UInt8)(w:World):Calls Tryz.prog 97 #[.int .u8 (c.toNat:Int)] w fun e w'=>e=.returned (.bool (jr c))∧w=w':=by
 unfold jr
 cases a1:decide (48≤(c.toNat:Int))
 ·go_enter Tryz.func97,Tryz.ntmps97
  go_wp2
  go_ret
  exact ⟨rfl,rfl⟩
 ·cases a2:decide ((c.toNat:Int)≤57)
  all_goals
   go_enter Tryz.func97,Tryz.ntmps97
   go_wp2
   go_ret
   exact ⟨rfl,rfl⟩
theorem FY {w:World} {g n c:Nat} {A:Option Addr} {x y:Value} {t:TypeId} (h:w.heap[g]?=some (.cells #[x,y,.slice A n c] t (0,0))) :
 Calls Tryz.prog 55 #[.pointer (some ⟨g,0,none⟩)] w fun e w'=>e=.returned (.bool (decide (0<n)))∧w=w':=by
 have h0:w.cell? ⟨g,2,none⟩=some (.slice A n c):=by simp [World.cell?,h]
 clear h
 go_enter Tryz.func55,Tryz.ntmps55
 go_wp2
 go_ret
 exact ⟨rfl,rfl⟩
theorem JI (s:ByteArray)(p:Nat)(hp:p≤s.size)(hs:s.size≤600)(w:World):Calls Tryz.prog 98 #[.string s,.int .i64 (p:Int),.func (.func 96) #[] #[]] w fun e w'=>e=.returned (.int .i64 (iQ jT s p))∧w=w':=by
 have hL:=anc (fun c=>Dn c w)
 go_enter Tryz.func98,Tryz.ntmps98
 go_wp2_with fail
 go_loop [7] (fun i=>∃ k:Nat,k≤s.size∧i=.int .i64 k∧Hid (iQ jT s k=iQ jT s p)) (fun i=>s.size-(intOf i).toNat)
 case atStart=>exact ⟨p,hp,rfl,anc rfl⟩
 case round =>
  obtain ⟨k,hk,rfl,hR⟩:=hrel
  by_cases hks:k<s.size
  ·have hlk:=anc (hL.out s[k])
   have HB:=anc (oZ hks)
   cases hlt:jT s[k]
   ·rw [hlt] at hlk
    have hR':=hR.out
    rw [o7 (by rw [HB.out];exact hlt)] at hR'
    have HR:=anc hR'
    clear hR' hlt
    go_wp2_with fail
    refine (hlk.out).mono ?_
    rintro e w' ⟨rfl,rfl⟩
    go_wp2_with fail
    go_ret
    exact ⟨by rw [←HR.out];rfl,rfl⟩
   ·rw [hlt] at hlk
    have hR':=hR.out
    rw [mW hks (by rw [HB.out];exact hlt)] at hR'
    have HR:=anc hR'
    clear hR' hlt
    go_wp2_with fail
    refine (hlk.out).mono ?_
    rintro e w' ⟨rfl,rfl⟩
    go_wp2_with fail
    go_round
    case rel=>exact ⟨k+1,by omega,by go_num,HR⟩
    case measure=>simp [intOf];omega
  ·obtain rfl:k=s.size:=by omega
   have hR':=hR.out
   rw [rC (by omega)] at hR'
   have HR:=anc hR'
   clear hR'
   go_wp2_with fail
   go_ret
   exact ⟨by rw [←HR.out];rfl,rfl⟩
theorem Dp (s:ByteArray)(p:Nat)(hp:p≤s.size)(hs:s.size≤600)(w:World):Calls Tryz.prog 98 #[.string s,.int .i64 (p:Int),.func (.func 97) #[] #[]] w fun e w'=>e=.returned (.int .i64 (iQ jr s p))∧w=w':=by
 have hL:=anc (fun c=>FX c w)
 go_enter Tryz.func98,Tryz.ntmps98
 go_wp2_with fail
 go_loop [7] (fun i=>∃ k:Nat,k≤s.size∧i=.int .i64 k∧Hid (iQ jr s k=iQ jr s p)) (fun i=>s.size-(intOf i).toNat)
 case atStart=>exact ⟨p,hp,rfl,anc rfl⟩
 case round =>
  obtain ⟨k,hk,rfl,hR⟩:=hrel
  by_cases hks:k<s.size
  ·have hlk:=anc (hL.out s[k])
   have HB:=anc (oZ hks)
   cases hlt:jr s[k]
   ·rw [hlt] at hlk
    have hR':=hR.out
    rw [o7 (by rw [HB.out];exact hlt)] at hR'
    have HR:=anc hR'
    clear hR' hlt
    go_wp2_with fail
    refine (hlk.out).mono ?_
    rintro e w' ⟨rfl,rfl⟩
    go_wp2_with fail
    go_ret
    exact ⟨by rw [←HR.out];rfl,rfl⟩
   ·rw [hlt] at hlk
    have hR':=hR.out
    rw [mW hks (by rw [HB.out];exact hlt)] at hR'
    have HR:=anc hR'
    clear hR' hlt
    go_wp2_with fail
    refine (hlk.out).mono ?_
    rintro e w' ⟨rfl,rfl⟩
    go_wp2_with fail
    go_round
    case rel=>exact ⟨k+1,by omega,by go_num,HR⟩
    case measure=>simp [intOf];omega
  ·obtain rfl:k=s.size:=by omega
   have hR':=hR.out
   rw [rC (by omega)] at hR'
   have HR:=anc hR'
   clear hR'
   go_wp2_with fail
   go_ret
   exact ⟨by rw [←HR.out];rfl,rfl⟩
def Errs (w:World):Prop:=(2<w.heap.size∧∃ ev,w.cell? ⟨2,0,none⟩=some ev∧(ev=.nilIface∨∃ te pe,ev=.iface te pe)) ∧
 (3<w.heap.size∧∃ ev,w.cell? ⟨3,0,none⟩=some ev∧(ev=.nilIface∨∃ te pe,ev=.iface te pe))
theorem Errs.kept {B:Nat} {w w':World} (h:Errs w)(hB:2<B∧3<B)(hb:Below B w w'):Errs w':=by
 obtain ⟨⟨h1,e1,c1,d1⟩,⟨h2,e2,c2,d2⟩⟩:=h
 have hs:=hb.size
 exact ⟨⟨by omega,e1,(hb.cell (p:=⟨_,0,none⟩) hB.1).trans c1,d1⟩,⟨by omega,e2,(hb.cell (p:=⟨_,0,none⟩) hB.2).trans c2,d2⟩⟩
theorem Errs.lt {w:World} (h:Errs w):2<w.heap.size∧3<w.heap.size:=⟨h.1.1,h.2.1⟩
theorem Errs.below {w w':World} (h:Errs w)(hb:Below w.heap.size w w'):Errs w':=h.kept h.lt hb
def uD:Prop:=∀ (x:ByteArray)(w:World),x.size≤600→Errs w→Calls Tryz.prog 136 #[.string x,.int .i64 10,.int .i64 64] w fun e w' =>
 ((∃ v,Lib.parseIntB 64 x.data.toList=.ok v∧e=.returned (.tuple #[.int .i64 v,.nilIface]))∨((∀ v,Lib.parseIntB 64 x.data.toList≠.ok v)∧∃ n te pe,e=.returned (.tuple #[.int .i64 n,.iface te pe])))∧Below w.heap.size w w'
def JJ (o:Option (Int×Nat))(e:Ending):Prop:=e=.returned (match o with | some (n,k)=>.tuple #[.int .i64 n,.int .i64 (k:Int)] | none=>.tuple #[.int .i64 0,.int .i64 (-1)])
theorem Dq (hP:uD)(s:ByteArray)(p:Nat)(hp:p<s.size)(hs:s.size≤600)(w:World)(hE:Errs w):Calls Tryz.prog 99 #[.string s,.int .i64 (p:Int)] w fun e w'=>JJ (gQ s p) e∧Below w.heap.size w w':=by
 have HB:=anc (oZ hp)
 cases h45:((s[p].toNat:Int)==45)
 ·
  have hnf:gK s p=p:=by unfold gK;rw [HB.out,if_neg (by simpa using h45)]
  have hr:=Dp s (p) (by omega) hs w
  rw [show ((p:Nat):Int)=(p:Int) by omega] at hr
  have hge:=nP (p:=jr) (s:=s) _ (p) rfl
  have hN:Hid (gQ s p=if iQ jr s (p)=p then none else match Lib.parseIntB 64 (s.extract p (iQ jr s (p))).data.toList with | .ok v=>some (v,iQ jr s (p)) | _=>none):=anc (by rw [gQ,hnf];rfl)
  obtain ⟨k,hk⟩:∃ k,iQ jr s (p)=k:=⟨_,rfl⟩
  rw [hk] at hr hge hN
  have HR:=anc hr
  have hk1:p≤k:=by omega
  have hk2:k≤s.size:=hge.2 (by omega)
  clear hr hge hk hnf
  have hPx:=anc (hP (s.extract p k) w (by rw [ByteArray.size_extract];omega) hE)
  cases hkf:((k:Int)==(p:Int))
  ·have hkn:¬k=p:=by have:=hkf;simp at this;omega
   have GI:=hN.out
   rw [if_neg hkn] at GI
   have HN:=anc GI
   clear GI hN hkn hE
   go_enter Tryz.func99,Tryz.ntmps99
   go_wp2_with fail
   refine (HR.out).mono ?_
   rintro e w' ⟨rfl,rfl⟩
   go_wp2_with fail
   refine (hPx.out).mono ?_
   rintro e w1 ⟨hcase,hb⟩
   have HB1:=anc hb
   rcases hcase with ⟨v,hv,rfl⟩ | ⟨hv,n,te,pe,rfl⟩
   ·have GK:=HN.out
    rw [hv] at GK
    have HN:=anc GK
    clear GK hv hb
    go_wp2_with fail
    go_ret2
    exact ⟨by rw [HN.out];exact rfl,HB1.out⟩
   ·have GK:gQ s p=none:=by
     rw [HN.out]
     cases h:Lib.parseIntB 64 (s.extract p k).data.toList with
     | ok v=>exact absurd h (hv v)
     | «syntax»=>rfl
     | range=>rfl
    have HN:=anc GK
    clear GK hv hb
    go_wp2_with fail
    go_ret2
    exact ⟨by rw [HN.out];exact rfl,HB1.out⟩
  ·have hkn:k=p:=by have:=hkf;simp at this;omega
   have GI:=hN.out
   rw [if_pos hkn] at GI
   have HN:=anc GI
   clear GI hN hkn hE
   go_enter Tryz.func99,Tryz.ntmps99
   go_wp2_with fail
   refine (HR.out).mono ?_
   rintro e w' ⟨rfl,rfl⟩
   go_wp2_with fail
   refine (hPx.out).mono ?_
   rintro e w1 ⟨hcase,hb⟩
   have HB1:=anc hb
   clear hb
   rcases hcase with ⟨v,_,rfl⟩ | ⟨_,n,te,pe,rfl⟩
   all_goals
    go_wp2_with fail
    go_ret2
    exact ⟨by rw [HN.out];exact rfl,HB1.out⟩
 ·
  have hnf:gK s p=p+1:=by unfold gK;rw [HB.out,if_pos (by simpa using h45)]
  have hr:=Dp s (p+1) (by omega) hs w
  rw [show ((p+1:Nat):Int)=(p:Int)+1 by omega] at hr
  have hge:=nP (p:=jr) (s:=s) _ (p+1) rfl
  have hN:Hid (gQ s p=if iQ jr s (p+1)=p+1 then none else match Lib.parseIntB 64 (s.extract p (iQ jr s (p+1))).data.toList with | .ok v=>some (v,iQ jr s (p+1)) | _=>none):=anc (by rw [gQ,hnf];rfl)
  obtain ⟨k,hk⟩:∃ k,iQ jr s (p+1)=k:=⟨_,rfl⟩
  rw [hk] at hr hge hN
  have HR:=anc hr
  have hk1:p≤k:=by omega
  have hk2:k≤s.size:=hge.2 (by omega)
  clear hr hge hk hnf
  have hPx:=anc (hP (s.extract p k) w (by rw [ByteArray.size_extract];omega) hE)
  cases hkf:((k:Int)==(p:Int)+1)
  ·have hkn:¬k=p+1:=by have:=hkf;simp at this;omega
   have GI:=hN.out
   rw [if_neg hkn] at GI
   have HN:=anc GI
   clear GI hN hkn hE
   go_enter Tryz.func99,Tryz.ntmps99
   go_wp2_with fail
   refine (HR.out).mono ?_
   rintro e w' ⟨rfl,rfl⟩
   go_wp2_with fail
   refine (hPx.out).mono ?_
   rintro e w1 ⟨hcase,hb⟩
   have HB1:=anc hb
   rcases hcase with ⟨v,hv,rfl⟩ | ⟨hv,n,te,pe,rfl⟩
   ·have GK:=HN.out
    rw [hv] at GK
    have HN:=anc GK
    clear GK hv hb
    go_wp2_with fail
    go_ret2
    exact ⟨by rw [HN.out];exact rfl,HB1.out⟩
   ·have GK:gQ s p=none:=by
     rw [HN.out]
     cases h:Lib.parseIntB 64 (s.extract p k).data.toList with
     | ok v=>exact absurd h (hv v)
     | «syntax»=>rfl
     | range=>rfl
    have HN:=anc GK
    clear GK hv hb
    go_wp2_with fail
    go_ret2
    exact ⟨by rw [HN.out];exact rfl,HB1.out⟩
  ·have hkn:k=p+1:=by have:=hkf;simp at this;omega
   have GI:=hN.out
   rw [if_pos hkn] at GI
   have HN:=anc GI
   clear GI hN hkn hE
   go_enter Tryz.func99,Tryz.ntmps99
   go_wp2_with fail
   refine (HR.out).mono ?_
   rintro e w' ⟨rfl,rfl⟩
   go_wp2_with fail
   refine (hPx.out).mono ?_
   rintro e w1 ⟨hcase,hb⟩
   have HB1:=anc hb
   clear hb
   rcases hcase with ⟨v,_,rfl⟩ | ⟨_,n,te,pe,rfl⟩
   all_goals
    go_wp2_with fail
    go_ret2
    exact ⟨by rw [HN.out];exact rfl,HB1.out⟩
def yt:Prop:=∀ (c:Int)(w:World),Calls Tryz.prog 160 #[.string hexDigits,.int .u8 c] w fun e w'=>e=.returned (.int .i64 (Lib.indexByte hexDigits.data.toList c.toNat.toUInt8))∧w'=w
theorem Xh (hH:yt)(c:UInt8)(w:World):Calls Tryz.prog 137 #[.int .u8 (c.toNat:Int)] w fun e w'=>e=.returned (.int .i64 (jf c))∧w=w':=by
 have hx:=hH (c.toNat:Int) w
 rw [show ((c.toNat:Int).toNat.toUInt8)=c by simp] at hx
 have hx:Calls Tryz.prog 160 #[.string ⟨#[48,49,50,51,52,53,54,55,56,57,97,98,99,100,101,102]⟩,.int .u8 (c.toNat:Int)] w fun e w'=>e=.returned (.int .i64 (jf c))∧w'=w:=hx
 have HX:=anc hx
 clear hx
 generalize jf c=h at *
 go_enter Tryz.func137,Tryz.ntmps137
 go_wp2_with fail
 refine (HX.out).mono ?_
 rintro e w' ⟨rfl,rfl⟩
 go_wp2_with fail
 go_ret
 exact ⟨rfl,rfl⟩
end Go.Proofs.YtjhkihkiebnpaaaGreatDoor
namespace Go.Proofs.YtjhkihkiebnpaaaGreatDoor
def aU (J:Nat→Act→World→Prop)(Q:Exit→Act→World→Prop):Exit→Act→World→Prop
 | .goto l,a,w=>J l a w
 | e,a,w=>Q e a w
section
variable {P:Program} {a:Act} {w:World} {Q:Exit→Act→World→Prop}
theorem Eo {c:Code} (J:Nat→Act→World→Prop) (μ:Nat→Act→World→Nat)
 (first:c.wp P (aU J Q) a w)
 (pass:∀ l a w,J l a w→∃ rest,findLabel c l=some rest∧rest.wp P (aU (fun l' a' w'=>J l' a' w'∧μ l' a' w'<μ l a w) Q) a w):(Code.scope c).wp P Q a w:=by
 intro b k cs
 have hg:∀ {l:Nat} {rest:Code},findLabel c l=some rest→gotoIn l (.inScope c::k)=some (.code rest::.inScope c::k):=fun h=>by simp [gotoIn,h]
 have key:∀ n l a w rest,μ l a w=n→J l a w→findLabel c l=some rest→∃ e a' w',Q e a' w'∧Arrives P (lone (b.at a (.code rest::.inScope c::k)) cs w) b k cs e a' w':=by
  intro n
  induction n using Nat.strongRecOn with
  | _ n ih =>
    intro l a w rest hn hJ hf
    obtain ⟨rest',hf',hp⟩:=pass l a w hJ
    obtain rfl:rest'=rest:=Option.some.inj (hf'.symm.trans hf)
    obtain ⟨e,a₁,w₁,hq,harr⟩:=hp b (.inScope c::k) cs
    cases e with
    | normal=>exact ⟨.normal,a₁,w₁,hq,Steps.trans harr (.one step_inScope)⟩
    | exit id=>exact ⟨.exit id,a₁,w₁,hq,fun k' hk=>harr k' (by simp [exitTo,hk])⟩
    | goto l' =>
      obtain ⟨hJ',hlt⟩:=hq
      obtain ⟨acV,hf2,_⟩:=pass l' a₁ w₁ hJ'
      obtain ⟨e₂,a₂,w₂,hq₂,harr₂⟩:=ih _ (by omega) l' a₁ w₁ acV rfl hJ' hf2
      exact ⟨e₂,a₂,w₂,hq₂,.of_steps (harr _ (hg hf2)) harr₂⟩
    | ret=>exact ⟨_,a₁,w₁,hq,harr⟩
    | panic ch=>exact ⟨_,a₁,w₁,hq,harr⟩
    | outgrown=>exact ⟨_,a₁,w₁,hq,harr⟩
 obtain ⟨e,a₁,w₁,hq,harr⟩:=first b (.inScope c::k) cs
 cases e with
 | normal=>exact ⟨.normal,a₁,w₁,hq,.head step_scope (Steps.trans harr (.one step_inScope))⟩
 | exit id=>exact ⟨.exit id,a₁,w₁,hq,fun k' hk=>.head step_scope (harr k' (by simp [exitTo,hk]))⟩
 | goto l' =>
   obtain ⟨rest,hf,_⟩:=pass l' a₁ w₁ hq
   obtain ⟨e₂,a₂,w₂,hq₂,harr₂⟩:=key _ l' a₁ w₁ rest rfl hq hf
   exact ⟨e₂,a₂,w₂,hq₂,.of_steps (.head step_scope (harr _ (hg hf))) harr₂⟩
 | ret=>exact ⟨_,a₁,w₁,hq,.of_steps (.one step_scope) harr⟩
 | panic ch=>exact ⟨_,a₁,w₁,hq,.of_steps (.one step_scope) harr⟩
 | outgrown=>exact ⟨_,a₁,w₁,hq,.of_steps (.one step_scope) harr⟩
theorem AV {c:Code} (J:Nat→Act→World→Prop) (μ:Nat→Act→World→Nat)
 (first:(∀ l X,findLabel c l=some (.seq .skip X)→∀ a w,J l a w→X.wp P (aU J Q) a w)→c.wp P (aU J Q) a w)
 (pass:∀ l a w,J l a w→∃ X,findLabel c l=some (.seq .skip X)∧X.wp P (aU (fun l' a' w'=>J l' a' w'∧μ l' a' w'<μ l a w) Q) a w):(Code.scope c).wp P Q a w:=by
 refine Eo J μ (first fun l X hX a w hJ=>?_) fun l a w hJ=>?_
 ·obtain ⟨X',hX',h⟩:=pass l a w hJ
  rw [hX] at hX'
  injection hX' with hX'
  injection hX' with _ hX'
  subst hX'
  refine wp_mono h fun e a w h=>?_
  cases e <;> first | exact h | exact h.1
 ·obtain ⟨X,hX,h⟩:=pass l a w hJ
  exact ⟨_,hX,wp_seq (wp_skip h)⟩
theorem Dt {c:Code} (J:Nat→Nat→Act→World→Prop)
 (first:(∀ n l X,findLabel c l=some (.seq .skip X)→∀ a w,J n l a w→X.wp P (aU (fun l a w=>∃ n,J n l a w) Q) a w)→c.wp P (aU (fun l a w=>∃ n,J n l a w) Q) a w)
 (pass:∀ n l a w,J n l a w→∃ X,findLabel c l=some (.seq .skip X)∧X.wp P (aU (fun l' a' w'=>∃ n',n'<n∧J n' l' a' w') Q) a w):(Code.scope c).wp P Q a w:=by
 have first':c.wp P (aU (fun l a w=>∃ n,J n l a w) Q) a w:=first fun n l X hX a w hJ=>by
  obtain ⟨X',hX',h⟩:=pass n l a w hJ
  rw [hX] at hX'
  injection hX' with hX'
  injection hX' with _ hX'
  subst hX'
  refine wp_mono h fun e a w h=>?_
  cases e <;> first | exact h | exact h.elim fun n hn=>⟨n,hn.2⟩
 intro b k cs
 have hg:∀ {l:Nat} {rest:Code},findLabel c l=some rest→gotoIn l (.inScope c::k)=some (.code rest::.inScope c::k):=fun h=>by simp [gotoIn,h]
 have key:∀ n l a w rest,J n l a w→findLabel c l=some rest→∃ e a' w',Q e a' w'∧Arrives P (lone (b.at a (.code rest::.inScope c::k)) cs w) b k cs e a' w':=by
  intro n
  induction n using Nat.strongRecOn with
  | _ n ih =>
    intro l a w rest hJ hf
    obtain ⟨X,hf',hp⟩:=pass n l a w hJ
    obtain rfl:Code.seq .skip X=rest:=Option.some.inj (hf'.symm.trans hf)
    obtain ⟨e,a₁,w₁,hq,harr⟩:=(wp_seq (wp_skip hp)) b (.inScope c::k) cs
    cases e with
    | normal=>exact ⟨.normal,a₁,w₁,hq,Steps.trans harr (.one step_inScope)⟩
    | exit id=>exact ⟨.exit id,a₁,w₁,hq,fun k' hk=>harr k' (by simp [exitTo,hk])⟩
    | goto l' =>
      obtain ⟨n',hlt,hJ'⟩:=hq
      obtain ⟨X2,hf2,_⟩:=pass n' l' a₁ w₁ hJ'
      obtain ⟨e₂,a₂,w₂,hq₂,harr₂⟩:=ih n' hlt l' a₁ w₁ _ hJ' hf2
      exact ⟨e₂,a₂,w₂,hq₂,.of_steps (harr _ (hg hf2)) harr₂⟩
    | ret=>exact ⟨_,a₁,w₁,hq,harr⟩
    | panic ch=>exact ⟨_,a₁,w₁,hq,harr⟩
    | outgrown=>exact ⟨_,a₁,w₁,hq,harr⟩
 obtain ⟨e,a₁,w₁,hq,harr⟩:=first' b (.inScope c::k) cs
 cases e with
 | normal=>exact ⟨.normal,a₁,w₁,hq,.head step_scope (Steps.trans harr (.one step_inScope))⟩
 | exit id=>exact ⟨.exit id,a₁,w₁,hq,fun k' hk=>.head step_scope (harr k' (by simp [exitTo,hk]))⟩
 | goto l' =>
   obtain ⟨n,hJ⟩:=hq
   obtain ⟨X,hf,_⟩:=pass n l' a₁ w₁ hJ
   obtain ⟨e₂,a₂,w₂,hq₂,harr₂⟩:=key n l' a₁ w₁ _ hJ hf
   exact ⟨e₂,a₂,w₂,hq₂,.of_steps (.head step_scope (harr _ (hg hf))) harr₂⟩
 | ret=>exact ⟨_,a₁,w₁,hq,.of_steps (.one step_scope) harr⟩
 | panic ch=>exact ⟨_,a₁,w₁,hq,.of_steps (.one step_scope) harr⟩
 | outgrown=>exact ⟨_,a₁,w₁,hq,.of_steps (.one step_scope) harr⟩
end
theorem Ux {tm:Array Value} {n:Nat} (h:tm.size=n):tm=((List.range n).map fun i=>tm.getD i undef).toArray:=by
 apply Array.ext
 ·simp [h]
 ·intro i h1 h2
  simp [Array.getD,h1]
end Go.Proofs.YtjhkihkiebnpaaaGreatDoor
