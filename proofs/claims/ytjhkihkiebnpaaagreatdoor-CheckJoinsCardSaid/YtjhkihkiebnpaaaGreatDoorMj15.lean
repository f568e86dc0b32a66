/-
  What a text's plan is, read, printed and read again. No program in sight.
-/
import Derived.Test.YtjhkihkiebnpaaaGreatDoorMj0
import Derived.Test.YtjhkihkiebnpaaaGreatDoorMj11
import Derived.Test.YtjhkihkiebnpaaaGreatDoorMj10
import Derived.Test.YtjhkihkiebnpaaaGreatDoorMj13
import Derived.Test.YtjhkihkiebnpaaaGreatDoorMj14
import Derived.Test.YtjhkihkiebnpaaaGreatDoorMj5
import Derived.Deep.RegionLaw
import Derived.Deep.DeepCutAuto
import Derived.Deep.RegionHeld3
import Derived.Test.YtjhkihkiebnpaaaGreatDoorMj12
import Derived.Test.YtjhkihkiebnpaaaGreatDoorMj7
import Derived.Test.YtjhkihkiebnpaaaGreatDoorMj9
import Derived.Test.YtjhkihkiebnpaaaGreatDoorMj3
import Derived.Deep.CutBlock
import Derived.KernelRfl
set_option linter.unusedVariables false
set_option linter.unusedSimpArgs false
set_option maxRecDepth 100000
set_option maxHeartbeats 40000000
namespace Go.Proofs.YtjhkihkiebnpaaaGreatDoor
open Go.RowKit
theorem X4 {t:T} (h:Hr t):ja t=era t:=by
 induction h with
 | atom w a h0 h=>simp[ja,era,Eb]
 | num n a h1 h2=>simp[ja,era,Eb]
 | str w a h=>simp[ja,era,Eb]
 | node l a h ih =>
   unfold ja
   rw[if_neg (by decide),if_neg (by decide),if_neg (by decide),era,Ht,Ec]
   congr 1
   exact List.map_congr_left ih
theorem X5 {t:T} (h:Hr t):Hr (era t):=by
 induction h with
 | atom w a h0 h=>rw[era,Eb];exact .atom w 0 h0 h
 | num n a h1 h2=>rw[era,Eb];exact .num n 0 h1 h2
 | str w a h=>rw[era,Eb];exact .str w 0 h
 | node l a h ih =>
   rw[era,Ec]
   refine .node _ 0 fun e he=>?_
   obtain⟨x,hx,rfl⟩:=List.mem_map.1 he
   exact ih x hx
theorem Ej {t:T} (h:Hr t):1≤iC t:=by
 cases h with
 | atom w a h0 h =>
   have:w.size≠0:=fun e=>h0 (bF (by simp only[Array.length_toList];exact e))
   simp only[iC,iD]
   rw[if_pos trivial]
   omega
 | num n a h1 h2=>simp only[iC];rw[if_neg (by decide)];omega
 | str w a h=>simp only[iC];rw[if_neg (by decide)];omega
 | node l a h=>simp only[iC];rw[if_neg (by decide)];omega
theorem KY {l:List T} {t:T} (h:t∈l):iC t≤iD l:=by
 induction l with
 | nil=>cases h
 | cons x l ih =>
   rw[iD]
   rcases bZ.1 h with rfl|h
   ·omega
   ·have:=ih h;omega
theorem Em:∀ {l:List T},(∀ t∈l,Hr t)→l.length≤iD l
 | [],_=>aX _
 | x::l,h=>by
   have h1:=Ej (h x bH)
   have h2:=Em (l:=l) fun t ht=>h t (bG _ ht)
   rw[iD,bf]
   omega
theorem AZ (l:List T)(a:Int):iC (.mk 1 ⟨#[]⟩ 0 l a)=1+iD l:=by
 rw[iC,if_neg (by decide)]
 rfl
theorem H8 {t:T} (h:Hr t):iC t≤600→T.Small t:=by
 induction h with
 | atom w a h0 h=>exact fun _=>.mk _ _ _ _ _ (by simp) (fun e he=>by cases he)
 | num n a h1 h2=>exact fun _=>.mk _ _ _ _ _ (by simp) (fun e he=>by cases he)
 | str w a h=>exact fun _=>.mk _ _ _ _ _ (by simp) (fun e he=>by cases he)
 | node l a h ih =>
   intro hc
   rw[AZ] at hc
   have:=Em h
   exact .mk _ _ _ _ _ (by omega) fun e he=>ih e he (by have:=KY he;omega)
theorem Vf {n:Int} (h1:-9223372036854775808≤n)(h2:n≤9223372036854775807):(Lib.itoa n).length≤20:=by
 have hd:∀ (k u:Nat),u<10 ^ (k+1)→(Lib.decDigits u).length≤k+1:=by
  intro k
  induction k with
  | zero=>intro u hu;rw[Lib.decDigits,dif_pos (by simpa using hu)];simp
  | succ k ih =>
    intro u hu
    rw[Lib.decDigits]
    split
    ·simp
    ·rw[aZ,cZ]
     have:=ih (u / 10) (by rw[Nat.pow_succ] at hu;omega)
     omega
 unfold Lib.itoa
 split
 ·have:=hd 18 n.natAbs (by omega)
  rw[bf]
  omega
 ·have:=hd 18 n.toNat (by omega)
  omega
theorem H9:∀ (l:List T),(∀ t∈l,(jr t).length+1≤24*iC t)→(Lib.joinTail [32] (kX l)).length≤24*iD l
 | [],_=>by simp[kX,Lib.joinTail]
 | x::l,h=>by
   have h1:=h x bH
   have h2:=H9 l fun t ht=>h t (bG _ ht)
   have e:Lib.joinTail [32] (kX (x::l))=32::(jr x++Lib.joinTail [32] (kX l)):=by
    rw[kX]
    simp[Lib.joinTail]
   rw[e,bf,aZ,iD]
   omega
theorem Ia (l:List T)(h:∀ t∈l,(jr t).length+1≤24*iC t):(Lib.join (kX l) [32]).length≤24*iD l:=by
 cases l with
 | nil=>simp[kX,Lib.join_nil]
 | cons x l =>
   have h1:=h x bH
   have h2:=H9 l fun t ht=>h t (bG _ ht)
   rw[kX,Lib.join_cons,aZ,iD]
   omega
theorem aaN {t:T} (h:Hr t):(jr t).length+1≤24*iC t:=by
 induction h with
 | atom w a h0 h =>
   have hp:=Ej (.atom w a h0 h)
   have e:jr (.mk 2 w 0 [] a)=w.data.toList:=by unfold jr;rw[if_neg (by decide),if_pos rfl]
   have hc:iC (.mk 2 w 0 [] a)=w.size:=by simp only[iC,iD];rw[if_pos trivial];rfl
   have hl:w.data.toList.length=w.size:=by rw[Array.length_toList];rfl
   rw[e,hl]
   omega
 | num n a h1 h2 =>
   have e:jr (.mk 3 ⟨#[]⟩ n [] a)=Lib.itoa n:=by unfold jr;rw[if_neg (by decide),if_neg (by decide),if_pos rfl]
   have:=Vf h1 h2
   have hp:=Ej (.num n a h1 h2)
   rw[e]
   omega
 | str w a h =>
   have hok:V.okB ⟨2,0,w⟩=true:=by
    unfold V.okB
    simp
    omega
   have e:jr (.mk 4 w 0 [] a)=34::w.data.toList.flatMap qB++[34]:=by
    unfold jr
    rw[if_neg (by decide),if_neg (by decide),if_neg (by decide),if_pos rfl]
    unfold uA
    rw[if_pos hok]
    rfl
   have hc:iC (.mk 4 w 0 [] a)=w.size+1:=by simp only[iC,iD];rw[if_neg (by decide)]
   have hl:w.data.toList.length=w.size:=by rw[Array.length_toList];rfl
   have:=Qc w.data.toList
   rw[e,hc,aZ,bf,cZ]
   omega
 | node l a h ih =>
   have e:jr (.mk 1 ⟨#[]⟩ 0 l a)=40::(Lib.join (kX l) [32]++[41]):=by unfold jr;rw[if_pos rfl]
   have:=Ia l ih
   rw[e,AZ,bf,aZ,cZ]
   omega
theorem X6 {t:T} (h:Hr t):iC t≤600→uG t:=by
 induction h with
 | atom w a h0 h=>exact fun _=>.mk _ _ _ _ _ (by decide) (by decide) (fun e=>absurd e (by decide)) (fun e=>absurd e (by decide))
 | num n a h1 h2=>exact fun _=>.mk _ _ _ _ _ h1 h2 (fun e=>absurd e (by decide)) (fun e=>absurd e (by decide))
 | str w a h=>exact fun _=>.mk _ _ _ _ _ (by decide) (by decide) (fun e=>absurd e (by decide)) (fun e=>absurd e (by decide))
 | node l a h ih =>
   intro hc
   rw[AZ] at hc
   have h1:=Em h
   have h2:=Ia l fun t ht=>aaN (h t ht)
   exact .mk _ _ _ _ _ (by decide) (by decide) (fun _=>⟨by omega,by omega⟩) (fun _ e he=>ih e he (by have:=KY he;omega))
theorem Ib:∀ (l:List T),(∀ t∈l,iC (era t)=iC t)→iD (l.map era)=iD l
 | [],_=>rfl
 | x::l,h=>by
   rw[List.map_cons,iD,iD,h x bH,Ib l fun t ht=>h t (bG _ ht)]
theorem RZ:∀ t:T,iC (era t)=iC t:=T.ind fun k s n l a ih=>by
 rw[era,Ec,iC,iC,Ib l ih]
theorem Si {t x:T} (h:T.Small t)(hx:x∈t.kids):T.Small x:=by
 cases h with
 | mk k s n l a hl h=>exact h x hx
theorem Ox:T.Small dW:=.mk _ _ _ _ _ (by simp) (fun e he=>by cases he)
theorem En {l:List T} (h:∀ e∈l,T.Small e)(i:Nat):T.Small (l.getD i dW):=by
 rw[List.getD_eq_getElem?_getD]
 cases hx:l[i]? with
 | none=>exact Ox
 | some x=>exact h x (aN hx)
theorem Vg {kd:Int} {l:List T} (hl:l.length≤600)(h:∀ e∈l,T.Small e) {ks:List P} (hk:ks.length≤600)(hf:∀ p∈ks,Ee p):Ee ((eU kd l).put ks):=by
 have hm:∀ i,(fV l i).length≤600:=fun i=>by unfold fV;rw[List.length_take,List.length_drop];omega
 have h1:=(En h 1).len
 have h2:=(En h 2).len
 unfold eU
 repeat' split
 all_goals
  simp only[P.put,P.k,P.nm,P.ex,P.cols,P.left,P.right,P.ag]
  refine .mk _ _ _ _ _ _ _ _ ?_ ?_ ?_ ?_ ?_ hk hf
 all_goals first
  | (simp;done)
  | (rw[bM];first|exact hm _|exact h1|exact h2)
theorem Ic:∀ (l:List T)(s:jL),(gu l 0 s).1.length=l.length
 | [],s=>by rw[gu];rfl
 | x::l,s=>by rw[gu];simp only[bf,Ic l]
theorem Ie:∀ (l:List T),(∀ t∈l,∀ s:jL,Ee (fU t s).1)→∀ (s:jL),∀ p∈(gu l 0 s).1,Ee p
 | [],_,s=>fun p hp=>by rw[gu] at hp;cases hp
 | x::l,h,s=>fun p hp=>by
   rw[gu] at hp
   rcases bZ.1 hp with rfl|hp
   ·exact h x bH s
   ·exact Ie l (fun t ht=>h t (bG _ ht)) _ p hp
theorem Vh:∀ t:T,T.Small t→∀ s:jL,Ee (fU t s).1:=T.ind fun k s n l a ih hs st=>by
 have hl:l.length≤600:=hs.len
 have hm:∀ e∈l,T.Small e:=fun e he=>Si hs he
 rw[fU,lq]
 refine Vg hl hm ?_ ?_
 ·rw[Ic,List.length_drop];omega
 ·exact Ie _ (fun t ht=>ih t (List.mem_of_mem_drop ht) (hm t (List.mem_of_mem_drop ht))) _
def uN (p:P):ByteArray:=⟨(jr (fD p)).toArray⟩
def mY (s:ByteArray):P×Int×Int :=
 if 600<s.size then (gq,3,0)
 else if (fZ s [] [] 0).2.1=0 then
  (if (fU (fZ s [] [] 0).1 (0,0)).2.1=0 then (if 600<(uN (fU (fZ s [] [] 0).1 (0,0)).1).size then (gq,3,0) else ((fU (fZ s [] [] 0).1 (0,0)).1,0,0))
   else (gq,(fU (fZ s [] [] 0).1 (0,0)).2.1,(fU (fZ s [] [] 0).1 (0,0)).2.2))
 else (gq,(fZ s [] [] 0).2.1,(fZ s [] [] 0).2.2)
structure Env (w:World):Prop where
 errs:Errs w
 pow:∀ w',Below w.heap.size w w'→UQ w'
theorem Env.low {w w':World} (h:Env w)(hb:Below w.heap.size w w'):Env w':=⟨h.errs.below hb,fun x hx=>h.pow x (hb.trans (hx.mono hb.size))⟩
def qH (s:ByteArray):T×Int×Int:=if 600<s.size then (dW,3,0) else fZ s [] [] 0
theorem Jt (s:ByteArray)(w:World)(hE:Errs w):Calls Tryz.prog 29 #[.string s] w fun e w'=>Jq w (qH s) e w'∧Below w.heap.size w w':=by
 unfold qH
 by_cases hs:600<s.size
 ·rw[if_pos hs]
  obtain⟨w1,dZ⟩:∃ w1,w1=w.alloc (.cells #[.int .i64 0,.string ⟨#[]⟩,.int .i64 0,.slice none 0 0,.int .i64 0] 71):=⟨_,rfl⟩
  have hb1:Below w.heap.size w w1:=by rw[dZ];exact (aG _ _).alloc (aF _) _
  have hx1:w1.heap[w.heap.size]?=some (.cells #[.int .i64 0,.string ⟨#[]⟩,.int .i64 0,.slice none 0 0,.int .i64 0] 71 (0,0)):=by rw[dZ];exact aH w _
  have HW1:=ae dZ
  have HB1:=ae hb1
  have Ti:(600:Int)<(s.size:Int):=by omega
  have aoy:decide ((600:Int)<(s.size:Int))=true:=decide_eq_true Ti
  clear dZ hb1
  obtain⟨⟨k0,k1,k2,k3,k4⟩,f0,f1,f2,f3,f4⟩:=dN hx1
  go_enter Tryz.func29,Tryz.ntmps29
  go_upto_region 1 with (fail)
  rw[←HW1.o]
  go_step3
  go_wp2_with fail
  simp only[Exit.noGoto]
  refine aJ (results_read rfl rfl rfl rfl (dR hx1)) rfl ?_
  exact⟨.none_ rfl rfl,dS HB1.o (aF _)⟩
 ·rw[if_neg hs]
  exact Tf Tm YI s (by omega) w hE
theorem oD {fn:Func} {p q r:Tmp} (h:fn.results=#[.cell p 27,.tmp q,.tmp r]) {tmps:Array Value} {w:World} {g:Nat} {x0 x1 x2 x3 x4 x5 x6 x7 a b:Value} {t:TypeId}
 (hp:tmps.getD p undef=.pointer (some ⟨g,0,none⟩))(hq:tmps.getD q undef=a)(hr:tmps.getD r undef=b)(hg:w.heap[g]?=some (.cells #[x0,x1,x2,x3,x4,x5,x6,x7] t (0,0))):(results fn tmps).run Tryz.prog w=.ok (.tuple #[.agg #[x0,x1,x2,x3,x4,x5,x6,x7],a,b]) w:=by
 have hp':tmps[p]?.getD undef=.pointer (some ⟨g,0,none⟩):=by simpa using hp
 have hq':tmps[q]?.getD undef=a:=by simpa using hq
 have hr':tmps[r]?.getD undef=b:=by simpa using hr
 have hl:=run_loadVar_row (P:=Tryz.prog) w g t 27 #[x0,x1,x2,x3,x4,x5,x6,x7] (0,0) _ hg Tryz.underlying27 rfl (by show _=some 8;kernel_rfl)
 simp[results,h,hp',hq',hr',asAddr,hl]
def zK (w:World)(R:P×Int×Int)(e:Ending)(w':World):Prop:=(∃ a:PA,e=.returned (.tuple #[R.1.val a,.int .i64 R.2.1,.int .i64 R.2.2])∧kY w' (fun k=>w.heap.size≤k∧k<w'.heap.size) R.1 a)∧Below w.heap.size w w'
theorem VV (w:World)(S:Nat→Prop):kY w S gq ru:=⟨kJ _ _ _ _,.nil _⟩
theorem x9 {w w':World} {R:P×Int×Int} {e:Ending} (hR:R.1=gq)(he:e=.returned (.tuple #[.agg #[.int .i64 0,.string ⟨#[]⟩,.slice none 0 0,.slice none 0 0,.slice none 0 0,.slice none 0 0,.slice none 0 0,.slice none 0 0],.int .i64 R.2.1,.int .i64 R.2.2]))(hb:Below w.heap.size w w'):zK w R e w':=by
 obtain⟨p,q⟩:=R
 simp only at hR he
 subst hR
 exact⟨⟨ru,he,VV _ _⟩,hb⟩
theorem VW (w:World)(p:Nat):w.drew.heap[p]?=w.heap[p]?:=rfl
theorem Be {w:World} {p:Nat} {a b c d e f g h x0 x1 x2 x3 x4 x5 x6 x7:Value} {t:TypeId} (hb:w.heap[p]?=some (.cells #[a,b,c,d,e,f,g,h] t (0,0))):(uY w p x0 x1 x2 x3 x4 x5 x6 x7).drew.heap[p]?=some (.cells #[x0,x1,x2,x3,x4,x5,x6,x7] t (0,0)):=(VW _ p).trans (gV hb)
theorem L9 (s:ByteArray)(h:(qH s).2.1≠0):mY s=(gq,(qH s).2.1,(qH s).2.2):=by
 unfold qH at h ⊢
 unfold mY
 by_cases h1:600<s.size
 ·rw[if_pos h1,if_pos h1]
 ·rw[if_neg h1] at h ⊢
  rw[if_neg h1,if_neg h]
theorem Mc (s:ByteArray)(h:(qH s).2.1=0):qH s=fZ s [] [] 0∧¬600<s.size∧(fZ s [] [] 0).2.1=0:=by
 unfold qH at h ⊢
 by_cases h1:600<s.size
 ·rw[if_pos h1] at h;simp at h
 ·rw[if_neg h1] at h ⊢
  exact⟨rfl,h1,h⟩
theorem Md {s:ByteArray} {t:T} (h1:¬600<s.size)(h2:(fZ s [] [] 0).2.1=0)(ht:(fZ s [] [] 0).1=t) :
 mY s=if (fU t (0,0)).2.1=0 then (if 600<(uN (fU t (0,0)).1).size then (gq,3,0) else ((fU t (0,0)).1,0,0)) else (gq,(fU t (0,0)).2.1,(fU t (0,0)).2.2):=by
 unfold mY
 rw[if_neg h1,if_pos h2,ht]
theorem zL (s:ByteArray)(w:World)(hE:Env w):Calls Tryz.prog 14 #[.string s] w (zK w (mY s)):=by
 obtain⟨w1,dZ⟩:∃ w1,w1=w.alloc (.cells #[.int .i64 0,.string ⟨#[]⟩,.slice none 0 0,.slice none 0 0,.slice none 0 0,.slice none 0 0,.slice none 0 0,.slice none 0 0] 27):=⟨_,rfl⟩
 have hb1:Below w.heap.size w w1:=by rw[dZ];exact (aG _ _).alloc (aF _) _
 have hs1:w.heap.size<w1.heap.size:=by rw[dZ];simp
 have jJ:Hid (w1.heap[w.heap.size]?=some (.cells #[.int .i64 0,.string ⟨#[]⟩,.slice none 0 0,.slice none 0 0,.slice none 0 0,.slice none 0 0,.slice none 0 0,.slice none 0 0] 27 (0,0))):=ae (by rw[dZ];exact aH w _)
 have HW1:=ae dZ
 have HB1:=ae hb1
 have HE:=ae hE
 have HS:=ae (Jt s w1 (hE.low hb1).errs)
 clear dZ hb1 hE
 go_enter Tryz.func14,Tryz.ntmps14
 go_upto_region 1 with (fail)
 rw[←HW1.o]
 go_wp2_with fail
 refine (HS.o).mono ?_
 rintro e w2 ⟨⟨A,c,rfl,hc,hX⟩,hb2⟩
 have hrp:mY s=(if 600<s.size then (gq,3,0) else if (fZ s [] [] 0).2.1=0 then
  (if (fU (fZ s [] [] 0).1 (0,0)).2.1=0 then (if 600<(uN (fU (fZ s [] [] 0).1 (0,0)).1).size then (gq,3,0) else ((fU (fZ s [] [] 0).1 (0,0)).1,0,0))
  else (gq,(fU (fZ s [] [] 0).1 (0,0)).2.1,(fU (fZ s [] [] 0).1 (0,0)).2.2))
  else (gq,(fZ s [] [] 0).2.1,(fZ s [] [] 0).2.2)):=rfl
 have Ph:Hid ((qH s).2.1≠0→mY s=(gq,(qH s).2.1,(qH s).2.2)):=ae (L9 s)
 have Pj:Hid ((qH s).2.1=0→qH s=fZ s [] [] 0∧¬600<s.size∧(fZ s [] [] 0).2.1=0):=ae (Mc s)
 clear hrp
 have iI:=ae ((hb2.block _ hs1).trans jJ.o)
 have HB2:=ae (HB1.o.trans (hb2.mono HB1.o.size))
 have Xm:=ae hX
 have hs2:=hb2.size
 clear hX hb2
 generalize hRR:qH s=R at *
 have HRR:=ae hRR
 clear hRR
 obtain⟨t,why,at_⟩:=R
 simp only at hc Xm Ph Pj ⊢
 by_cases h0:why=0
 ·subst h0
  obtain⟨e1,e2,e3⟩:=Pj.o rfl
  have hok:=ae (XQ e3)
  rw[←e1] at hok
  obtain⟨q,hq⟩:∃ q,q=fU t (0,0):=⟨_,rfl⟩
  have hR:Hid (mY s=if q.2.1=0 then (if 600<(uN q.1).size then (gq,3,0) else (q.1,0,0)) else (gq,q.2.1,q.2.2)):=ae (by rw[hq];exact Md e2 e3 (by rw[←e1]))
  have hbk:=ae (fun h=>mX t (0,0) h)
  rw[←hq] at hbk
  have hfw:=ae (fun h=>Vh t (H8 hok.o.1 h) (0,0))
  rw[←hq] at hfw
  have VX:Hid (iC t≤600):=ae (aS hok.o.2.2 (by omega))
  clear e1 e2 e3 Ph Pj
  obtain⟨w3,ny⟩:∃ w3,w3=w2.alloc (.cells #[.int .i64 t.k,.string t.s,.int .i64 t.n,.slice A t.kids.length c,.int .i64 t.at_] 71):=⟨_,rfl⟩
  have hb3:Below w2.heap.size w2 w3:=by rw[ny];exact (aG _ _).alloc (aF _) _
  have hs3:w3.heap.size=w2.heap.size+1:=by rw[ny];simp
  have HT3:Hid (w3.heap[w2.heap.size]?=some (.cells #[.int .i64 t.k,.string t.s,.int .i64 t.n,.slice A t.kids.length c,.int .i64 t.at_] 71 (0,0))):=ae (by rw[ny];exact aH w2 _)
  obtain⟨w4,yw⟩:∃ w4,w4=w3.alloc (.cells #[.int .i64 0,.int .i64 0] 76):=⟨_,rfl⟩
  have hb4:Below w3.heap.size w3 w4:=by rw[yw];exact (aG _ _).alloc (aF _) _
  have hs4:w4.heap.size=w3.heap.size+1:=by rw[yw];simp
  have XC:sU w4 w3.heap.size (0,0):=by rw[yw];exact aH w3 _
  have YJ:Below w2.heap.size w2 w4:=hb3.trans (hb4.mono hb3.size)
  have HT4:=ae ((hb4.block w2.heap.size (by omega)).trans HT3.o)
  have uz:=ae ((YJ.block _ (by omega)).trans iI.o)
  have HB4:=ae (HB2.o.trans (YJ.mono HB2.o.size))
  have lV:=ae (Ve t (H8 hok.o.1 VX.o) A c w3.heap.size (0,0) w4 XC hc (((Xm.o.to (B:=w2.heap.size) fun k hk=>hk.2).low YJ).more (by omega)))
  rw[←hq] at lV
  have HW3:=ae ny
  have HW4:=ae yw
  have HR4:=ae XC
  clear ny hb3 yw hb4 XC YJ hq
  obtain⟨tk,ts,tn,tl,ta⟩:=t
  simp only[T.val,T.k,T.s,T.n,T.kids,T.at_] at lV HW3 HT4 HT3 ⊢
  generalize tl.length=tm at *
  obtain⟨⟨k0,k1,k2,k3,k4⟩,_,_,_,_,_⟩:=dN HT4.o
  have hg1:w.heap.size<w3.heap.size:=by omega
  have hz4:w3.heap.size<w4.heap.size:=by omega
  have hx4:w.heap.size<w4.heap.size:=by omega
  clear hs3 hs4
  go_upto_region 2 with (fail)
  rw[←HW3.o]
  go_upto_region 5 with (fail)
  rw[←HW4.o]
  go_wp2_with fail
  refine (lV.o).mono ?_
  rintro e w5 ⟨⟨a,rfl,hP⟩,iJ,oI⟩
  have HP5:=ae hP
  have jq:=ae iJ
  have wU:=ae oI
  have hs5:=iJ.size
  obtain⟨p,st⟩:=q
  obtain⟨sw,sa⟩:=st
  simp only[P.val] at hbk hfw hR HP5 wU ⊢
  obtain⟨w6,O8⟩:∃ w6,w6=w5.alloc (.cells #[.int .i64 p.k,.string p.nm,.slice a.ea p.ex.length a.ec,.slice a.ca p.cols.length a.cc,.slice a.la p.left.length a.lc,.slice a.ra p.right.length a.rc,.slice a.ga p.ag.length a.gc,.slice a.ka p.kids.length a.kc] 27):=⟨_,rfl⟩
  have hb6:Below w5.heap.size w5 w6:=by rw[O8];exact (aG _ _).alloc (aF _) _
  have CV:Hid (w6.heap[w5.heap.size]?=some (.cells #[.int .i64 p.k,.string p.nm,.slice a.ea p.ex.length a.ec,.slice a.ca p.cols.length a.cc,.slice a.la p.left.length a.lc,.slice a.ra p.right.length a.rc,.slice a.ga p.ag.length a.gc,.slice a.ka p.kids.length a.kc] 27 (0,0))):=ae (by rw[O8];exact aH w5 _)
  have hs6:w5.heap.size<w6.heap.size:=by rw[O8];simp
  have HW6:=ae O8
  have yO:=ae (oI.kept hb6)
  have kD:=ae (HB4.o.trans (((iJ.below (B:=w.heap.size) (by omega) (by omega))).trans (hb6.mono (by omega))))
  have Gi:=ae ((hb6.block _ (by omega)).trans ((iJ.block w.heap.size (by omega) (by omega)).trans uz.o))
  have Ny:=ae ((hP.kept (w':=w6) fun k hk=>hb6.block k hk.2).mono fun k hk=>(⟨hk.1,by have:=hk.2;omega⟩:w4.heap.size≤k∧k<w6.heap.size))
  have hmap:Hid (p.ex.length=p.ex.length):=ae rfl
  clear O8 hb6 hP iJ oI wU
  go_upto_region 6 with (fail)
  rw[←HW6.o]
  obtain⟨⟨r0,r1⟩,_,_⟩:=cell2 yO.o
  (try simp only at r0 r1)
  by_cases hw0:sw=0
  ·subst hw0
   obtain⟨b1,b2,b3⟩:=hbk.o rfl
   (try simp only at b1 b2 b3)
   obtain⟨_,rfl⟩:(0:Int)=0∧sa=0:=by injection b1 with b1 b2;exact⟨rfl,b2⟩
   have HMD:=ae b3
   have HFW:=ae (hfw.o VX.o)
   have HTP:Hid (fD p=era (.mk tk ts tn tl ta)):=ae (by rw[b2,X4 hok.o.1])
   have ail:Hid (uG (fD p)):=ae (by rw[HTP.o];exact X6 (X5 hok.o.1) (by rw[RZ];exact VX.o))
   have htr:=AX p HMD.o HFW.o a w6 (Ny.o.mono fun k hk=>hk.2)
   simp only[P.val] at htr
   have IP:=ae htr
   have Jo:=ae (HE.o.low (w':=w6) kD.o)
   have FT:=ae (fun A' c' w' (h:Below w6.heap.size w6 w')(h1:(fD p).kids.length≤c')(h2:fA w' w'.heap.size A' (fD p).kids)=>print_any (fD p) ail.o A' c' w' h1 h2 (Jo.o.low h).pow)
   obtain⟨z0,z1,z2,z3,z4,z5,z6,z7,_,_,_,_,_,_,_,_⟩:=dO CV.o
   have hps:Hid ((⟨(jr (fD p)).toArray⟩:ByteArray)=uN p):=ae rfl
   rw[hps.o] at FT
   clear b1 b2 b3 htr
   generalize uN p=pp at *
   generalize fD p=tp at *
   obtain⟨uk,us,un,ul,uo⟩:=tp
   simp only[T.val,T.k,T.s,T.n,T.kids,T.at_] at FT
   go_wp2_with fail
   refine (IP.o).mono ?_
   rintro e w7 ⟨⟨A7,c7,rfl,Qn,Qo⟩,hb7⟩
   have Dk:=ae hb7
   have lG:=ae (FT.o A7 c7 w7 hb7 Qn (Qo.to fun k hk=>hk.2))
   simp only[T.val,T.k,T.s,T.n,T.kids,T.at_]
   clear hb7 Qo Qn
   go_wp2_with fail
   refine (lG.o).mono ?_
   rintro e w8 ⟨rfl,hb8⟩
   have uM:=ae (Dk.o.trans (hb8.mono Dk.o.size))
   have hs8:=uM.o.size
   clear hb8 r0 r1 z0 z1 z2 z3 z4 z5 z6 z7
   obtain⟨⟨r0,r1⟩,_,_⟩:=cell2 ((uM.o.block w3.heap.size (by omega)).trans yO.o)
   (try simp only at r0 r1)
   have HR8:Hid (sU w8 w3.heap.size (0,0)):=ae (yO.o.kept uM.o)
   have HX8:=ae ((uM.o.block w.heap.size (by omega)).trans Gi.o)
   by_cases hl:600<pp.size
   ·have hRP:Hid (mY s=(gq,3,0)):=ae (by rw[hR.o,if_pos trivial,if_pos hl])
    have hl':decide (600<(pp.size:Int))=true:=by simp;omega
    have hl2:(600:Int)<(pp.size:Int):=by omega
    have HRF:=ae (ik w3.heap.size (0,0) 3 0 w8 HR8.o)
    rw[show yH 3 0 (0,0)=(3,0) from rfl] at HRF
    go_wp2_with fail
    refine (HRF.o).mono ?_
    rintro e w9 ⟨rfl,ho9,QC⟩
    have HO9:=ae ho9
    have J8:=ae QC
    have GI:=ae ((ho9.block w.heap.size (by omega) (by omega)).trans HX8.o)
    clear ho9 QC r0 r1
    obtain⟨⟨r0,r1⟩,_,_⟩:=cell2 J8.o
    (try simp only at r0 r1)
    obtain⟨x0,x1,x2,x3,x4,x5,x6,x7,f0,f1,f2,f3,f4,f5,f6,f7⟩:=dO GI.o
    go_upto_region 9 with (fail)
    go_region
    all_goals
     go_wp2_with fail
     refine aJ (oD rfl rfl rfl rfl (Be GI.o)) rfl ?_
     rw[hRP.o]
     exact x9 rfl rfl (iq ((kD.o.trans (uM.o.mono kD.o.size)).trans (HO9.o.below (by omega) (by omega))) (aF _)).drew
   ·have hRP:Hid (mY s=(p,0,0)):=ae (by rw[hR.o,if_pos trivial,if_neg hl])
    have hl':decide (600<(pp.size:Int))=false:=by simp;omega
    have hl2:¬(600:Int)<(pp.size:Int):=by omega
    obtain⟨x0,x1,x2,x3,x4,x5,x6,x7,f0,f1,f2,f3,f4,f5,f6,f7⟩:=dO HX8.o
    obtain⟨z0,z1,z2,z3,z4,z5,z6,z7,_,_,_,_,_,_,_,_⟩:=dO ((uM.o.block w5.heap.size (by omega)).trans CV.o)
    go_wp2_with fail
    refine aJ (oD rfl rfl rfl rfl (gV HX8.o)) rfl ?_
    rw[hRP.o]
    have hbb:=kD.o.trans (uM.o.mono kD.o.size)
    exact⟨⟨a,rfl,(Ny.o.kept fun k hk=>(jH (by have:=hk.1;omega)).trans (uM.o.block k hk.2)).mono fun k hk=>⟨by have:=hk.1;omega,aQ (aK hk.2 hs8) mV.symm⟩⟩,iq hbb (aF _)⟩
  ·have hRP:Hid (mY s=(gq,sw,sa)):=ae (by rw[hR.o,if_neg hw0])
   have hw':(sw==0)=false:=by simpa using hw0
   obtain⟨x0,x1,x2,x3,x4,x5,x6,x7,f0,f1,f2,f3,f4,f5,f6,f7⟩:=dO Gi.o
   go_upto_region 9 with (fail)
   go_region
   all_goals
    go_wp2_with fail
    refine aJ (oD rfl rfl rfl rfl (Be Gi.o)) rfl ?_
    rw[hRP.o]
    exact x9 rfl rfl (iq kD.o (aF _)).drew
 ·have h0':(why==0)=false:=by simpa using h0
  obtain⟨x0,x1,x2,x3,x4,x5,x6,x7,f0,f1,f2,f3,f4,f5,f6,f7⟩:=dO ((show ∀ o,(w2.alloc o).heap[w.heap.size]?=w2.heap[w.heap.size]? from fun o=>aP w2 o _ (by omega)) (.cells #[.int .i64 t.k,.string t.s,.int .i64 t.n,.slice A t.kids.length c,.int .i64 t.at_] 71) |>.trans iI.o)
  have HXA:=ae ((aP w2 (.cells #[.int .i64 t.k,.string t.s,.int .i64 t.n,.slice A t.kids.length c,.int .i64 t.at_] 71) w.heap.size (by omega)).trans iI.o)
  go_wp2_with fail
  refine aJ (oD rfl rfl rfl rfl (gV HXA.o)) rfl ?_
  have hr:=Ph.o h0
  rw[hr]
  exact x9 rfl rfl (iq (HB2.o.alloc HB2.o.size _) (aF _))
theorem Ju (s:ByteArray)(hs:s.size≤1000000)(w:World)(hE:Env w):Calls Tryz.prog 14 #[.string s] w (zK w (mY s)):=zL s w hE
structure RC (pb:Nat)(w2:World)(B:Nat)(v2 v3:Value)(ps:List EP)(cs:List ByteArray)(wr:World):Prop where
 box:wr.heap[pb]?=some (.cells #[.int .i64 3,.string ⟨#[]⟩,v2,v3,.slice none 0 0,.slice none 0 0,.slice none 0 0,.slice none 0 0] 27 (0,0))
 rY:wr.ownsRow B 9 1 v3 cs.length (strs cs)
 uF:wr.ownsRow B 38 4 v2 ps.length (kN ps)
 kids:∀ p∈ps,jG wr (fun k=>B≤k∧k<wr.heap.size∧v2.ownBlock≠some k∧v3.ownBlock≠some k) p.2.1 p.1.kids
 apart:∀ k,v2.ownBlock=some k→v3.ownBlock≠some k
 bel:Below pb w2 wr
 size:B≤wr.heap.size
theorem RC.abL {pb B:Nat} {w2 wr w':World} {v2 v3:Value} {ps:List EP} {cs:List ByteArray} (h:RC pb w2 B v2 v3 ps cs wr)(hb:Below wr.heap.size wr w')(hp:pb<B):RC pb w2 B v2 v3 ps cs w':=by
 have hs:=h.size
 have hs':=hb.size
 exact⟨(hb.block pb (by omega)).trans h.box,own_below h.rY hb,own_below h.uF hb,
  fun p hp'=>((h.kids p hp').kept fun k hk=>hb.block k hk.2.1).mono fun k hk=>⟨hk.1,by have:=hk.2.1;omega,hk.2.2⟩,h.apart,h.bel.trans (hb.mono (by omega)),by omega⟩
theorem RC.step3 {pb B g' cap:Nat} {w2 w3 w5:World} {v2 v3:Value} {ps:List EP} {cs:List ByteArray} {s:ByteArray} (h:RC pb w2 B v2 v3 ps cs w3)(hg5:w3.grownBy w5 v3.ownBlock)
 (iJ:w5.ownsRow B 9 1 (.slice (some ⟨g',0,none⟩) (cs.length+1) cap) (cs.length+1) (strs cs++[.string s]))
 (hat:(Value.slice (some ⟨g',0,none⟩) (cs.length+1) cap).ownBlock=v3.ownBlock∨∃ n,(Value.slice (some ⟨g',0,none⟩) (cs.length+1) cap).ownBlock=some n∧w3.heap.size≤n)
 (hp:pb<B):RC pb w2 B v2 (.slice (some ⟨g',0,none⟩) (cs.length+1) cap) ps (cs++[s]) (w5.setCell ⟨pb,3,none⟩ (.slice (some ⟨g',0,none⟩) (cs.length+1) cap)):=by
 have hs:=h.size
 have hs5:=hg5.size
 have h3:∀ k,v3.ownBlock=some k→B≤k∧k<w3.heap.size:=fun k e=>h.rY.lt k e
 have h2:∀ k,v2.ownBlock=some k→B≤k∧k<w3.heap.size:=fun k e=>h.uF.lt k e
 have hne:g'≠pb:=fun e=>by
  rcases hat with h|⟨n,h,hn⟩
  ·have:=h3 g' (by rw[←h];rfl);omega
  ·have:n=g':=by simpa [Value.ownBlock] using h.symm
   omega
 have hoth:∀ k,k≠pb→k<w3.heap.size→v3.ownBlock≠some k→(w5.setCell ⟨pb,3,none⟩ (.slice (some ⟨g',0,none⟩) (cs.length+1) cap)).heap[k]?=w3.heap[k]?:=fun k a1 a2 a3 =>
  (aI w5 ⟨pb,3,none⟩ _ k a1).trans (hg5.block k a2 fun e=>a3 e.symm)
 have hz:(w5.setCell ⟨pb,3,none⟩ (.slice (some ⟨g',0,none⟩) (cs.length+1) cap)).heap.size=w5.heap.size:=by simp[World.setCell]
 have hv:∀ k,k<w3.heap.size→v3.ownBlock≠some k→(Value.slice (some ⟨g',0,none⟩) (cs.length+1) cap).ownBlock≠some k:=fun k a1 a2=>by
  rcases hat with h|⟨n,h,hn⟩
  ·rw[h];exact a2
  ·rw[h];intro e;have:=aY e;omega
 refine⟨jm (k:=3) ((hg5.block pb (by omega) fun e=>by have:=(h3 pb e.symm).1;omega).trans h.box),?_,?_,?_,?_,?_,by omega⟩
 ·rw[aZ,cZ,BJ]
  exact nK iJ (aI w5 ⟨pb,3,none⟩ _ g' hne)
 ·exact vC h.uF fun k e=>hoth k (by have:=(h2 k e).1;omega) (h2 k e).2 (h.apart k e)
 ·intro p hp'
  exact ((h.kids p hp').kept fun k hk=>hoth k (by have:=hk.1;omega) hk.2.1 hk.2.2.2).mono fun k hk=>⟨hk.1,by have:=hk.2.1;omega,hk.2.2.1,hv k hk.2.1 hk.2.2.2⟩
 ·exact fun k e=>hv k (h2 k e).2 (h.apart k e)
 ·exact (h.bel.grown hg5 (by omega) (fun k e=>by have:=(h3 k e).1;omega)).setCell (p:=⟨pb,3,none⟩) (aF _) _
theorem RC.step2 {pb B g' cap sz sz2:Nat} {w2 w3 w5:World} {v2 v3:Value} {ps:List EP} {cs:List ByteArray} {x:EP} (h:RC pb w2 B v2 v3 ps cs w3)(hg5:w3.grownBy w5 v2.ownBlock)
 (iJ:w5.ownsRow B 38 4 (.slice (some ⟨g',0,none⟩) (ps.length+1) cap) (ps.length+1) (kN ps++EP.cs x))
 (hat:(Value.slice (some ⟨g',0,none⟩) (ps.length+1) cap).ownBlock=v2.ownBlock∨∃ n,(Value.slice (some ⟨g',0,none⟩) (ps.length+1) cap).ownBlock=some n∧w3.heap.size≤n)
 (hx:jG w3 (fun k=>sz≤k∧k<sz2) x.2.1 x.1.kids)(hsz2:sz2≤w3.heap.size)(hsz:B≤sz)(hz2:∀ k,v2.ownBlock=some k→k<sz)(hz3:∀ k,v3.ownBlock=some k→k<sz∨sz2≤k)
 (hp:pb<B):RC pb w2 B (.slice (some ⟨g',0,none⟩) (ps.length+1) cap) v3 (ps++[x]) cs (w5.setCell ⟨pb,2,none⟩ (.slice (some ⟨g',0,none⟩) (ps.length+1) cap)):=by
 have hs:=h.size
 have hs5:=hg5.size
 have h3:∀ k,v3.ownBlock=some k→B≤k∧k<w3.heap.size:=fun k e=>h.rY.lt k e
 have h2:∀ k,v2.ownBlock=some k→B≤k∧k<w3.heap.size:=fun k e=>h.uF.lt k e
 have hne:g'≠pb:=fun e=>by
  rcases hat with h|⟨n,h,hn⟩
  ·have:=h2 g' (by rw[←h];rfl);omega
  ·have:n=g':=by simpa [Value.ownBlock] using h.symm
   omega
 have hoth:∀ k,k≠pb→k<w3.heap.size→v2.ownBlock≠some k→(w5.setCell ⟨pb,2,none⟩ (.slice (some ⟨g',0,none⟩) (ps.length+1) cap)).heap[k]?=w3.heap[k]?:=fun k a1 a2 a3 =>
  (aI w5 ⟨pb,2,none⟩ _ k a1).trans (hg5.block k a2 fun e=>a3 e.symm)
 have hz:(w5.setCell ⟨pb,2,none⟩ (.slice (some ⟨g',0,none⟩) (ps.length+1) cap)).heap.size=w5.heap.size:=by simp[World.setCell]
 have hv:∀ k,k<w3.heap.size→v2.ownBlock≠some k→(Value.slice (some ⟨g',0,none⟩) (ps.length+1) cap).ownBlock≠some k:=fun k a1 a2=>by
  rcases hat with h|⟨n,h,hn⟩
  ·rw[h];exact a2
  ·rw[h];intro e;have:=aY e;omega
 refine⟨jm (k:=2) ((hg5.block pb (by omega) fun e=>by have:=(h2 pb e.symm).1;omega).trans h.box),?_,?_,?_,?_,?_,by omega⟩
 ·exact vC h.rY fun k e=>hoth k (by have:=(h3 k e).1;omega) (h3 k e).2 (fun e2=>h.apart k e2 e)
 ·rw[aZ,cZ,o8,nR]
  exact nK iJ (aI w5 ⟨pb,2,none⟩ _ g' hne)
 ·intro p hp'
  rcases cu.1 hp' with hp'|hp'
  ·exact ((h.kids p hp').kept fun k hk=>hoth k (by have:=hk.1;omega) hk.2.1 hk.2.2.1).mono fun k hk=>⟨hk.1,by have:=hk.2.1;omega,hv k hk.2.1 hk.2.2.1,hk.2.2.2⟩
  ·obtain rfl:p=x:=by simpa using hp'
   have a2:∀ k,sz≤k→v2.ownBlock≠some k:=fun k hk e=>by have:=hz2 k e;omega
   have a3:∀ k,sz≤k→k<sz2→v3.ownBlock≠some k:=fun k hk hk2 e=>by have:=hz3 k e;omega
   exact (hx.kept fun k hk=>hoth k (by have:=hk.1;omega) (by have:=hk.2;omega) (a2 k hk.1)).mono fun k hk=>⟨by have:=hk.1;omega,by have:=hk.2;omega,hv k (by have:=hk.2;omega) (a2 k hk.1),a3 k hk.1 hk.2⟩
 ·intro k e e3
  exact hv k (h3 k e3).2 (fun e2=>h.apart k e2 e3) e
 ·exact (h.bel.grown hg5 (by omega) (fun k e=>by have:=(h2 k e).1;omega)).setCell (p:=⟨pb,2,none⟩) (aF _) _
structure RG (pb:Nat)(w2:World)(B:Nat)(lv v:Value)(gs:List Ag)(wr:World):Prop where
 box:wr.heap[pb]?=some (.cells #[.int .i64 7,.string ⟨#[]⟩,.slice none 0 0,.slice none 0 0,lv,.slice none 0 0,v,.slice none 0 0] 27 (0,0))
 own:wr.ownsRow B 46 3 v gs.length (jd gs)
 bel:Below pb w2 wr
 size:B≤wr.heap.size
theorem RG.abL {pb B:Nat} {w2 wr w':World} {lv v:Value} {gs:List Ag} (h:RG pb w2 B lv v gs wr)(hb:Below wr.heap.size wr w')(hp:pb<B):RG pb w2 B lv v gs w':=by
 have hs:=h.size
 have hs':=hb.size
 exact⟨(hb.block pb (by omega)).trans h.box,own_below h.own hb,h.bel.trans (hb.mono (by omega)),by omega⟩
theorem RG.step {pb B g' cap:Nat} {w2 w3 w5:World} {lv v:Value} {gs:List Ag} {x:Ag} (h:RG pb w2 B lv v gs w3)(hg5:w3.grownBy w5 v.ownBlock)
 (iJ:w5.ownsRow B 46 3 (.slice (some ⟨g',0,none⟩) (gs.length+1) cap) (gs.length+1) (jd gs++Ag.cs x))
 (hat:(Value.slice (some ⟨g',0,none⟩) (gs.length+1) cap).ownBlock=v.ownBlock∨∃ n,(Value.slice (some ⟨g',0,none⟩) (gs.length+1) cap).ownBlock=some n∧w3.heap.size≤n)
 (hp:pb<B):RG pb w2 B lv (.slice (some ⟨g',0,none⟩) (gs.length+1) cap) (gs++[x]) (w5.setCell ⟨pb,6,none⟩ (.slice (some ⟨g',0,none⟩) (gs.length+1) cap)):=by
 have hs:=h.size
 have hs5:=hg5.size
 have h2:∀ k,v.ownBlock=some k→B≤k∧k<w3.heap.size:=fun k e=>h.own.lt k e
 have hne:g'≠pb:=fun e=>by
  rcases hat with h|⟨n,h,hn⟩
  ·have:=h2 g' (by rw[←h];rfl);omega
  ·have:n=g':=by simpa [Value.ownBlock] using h.symm
   omega
 have hz:(w5.setCell ⟨pb,6,none⟩ (.slice (some ⟨g',0,none⟩) (gs.length+1) cap)).heap.size=w5.heap.size:=by simp[World.setCell]
 refine⟨jm (k:=6) ((hg5.block pb (by omega) fun e=>by have:=(h2 pb e.symm).1;omega).trans h.box),?_,?_,by omega⟩
 ·rw[aZ,cZ,yQ,Ap]
  exact nK iJ (aI w5 ⟨pb,6,none⟩ _ g' hne)
 ·exact (h.bel.grown hg5 (by omega) (fun k e=>by have:=(h2 k e).1;omega)).setCell (p:=⟨pb,6,none⟩) (aF _) _
def yg (kd:Int)(l:List T):Prop:=(kd=1∧nameB (l.getD 1 dW).s=true)∨(kd=7∧(∀ e∈(l.getD 1 dW).kids,nameB e.s=true)∧∀ e∈fV l 2,Jg e.kids)
theorem qY {kd:Int} {l:List T} (h1:kd≠1)(h7:kd≠7):¬yg kd l:=fun h=>by
 rcases h with⟨h,_⟩|⟨h,_⟩
 ·exact h1 h
 ·exact h7 h
inductive sH:T→Prop
 | mk (t:T)(hk:jK t≠0)(hb:yg (jK t) t.kids)(h:∀ x∈t.kids.drop (t.kids.length-dY (jK t)),sH x):sH t
theorem sH.kind {t:T} (h:sH t):jK t≠0:=by cases h with|mk _ hk hb h=>exact hk
theorem sH.base {t:T} (h:sH t):yg (jK t) t.kids:=by cases h with|mk _ hk hb h=>exact hb
theorem sH.sub {t:T} (h:sH t):∀ x∈t.kids.drop (t.kids.length-dY (jK t)),sH x:=by cases h with|mk _ hk hb h=>exact h
def vX (w:World)(t:T)(e:Ending)(w':World):Prop:=(∃ (a:PA)(p:P)(why at_:Int),e=.returned (.tuple #[p.val a,.int .i64 why,.int .i64 at_])∧kY w' (fun k=>w.heap.size≤k∧k<w'.heap.size) p a ∧
 ((why=0∧fU t (0,0)=(p,0,0))∨(why≠0∧p=gq∧¬sH t)))∧Below w.heap.size w w'
def Pm (t:T):Prop:=t.Good→∀ (A:Option Addr)(c:Nat)(w:World),t.kids.length≤c→fA w w.heap.size A t.kids→Calls Tryz.prog 40 #[t.val A c] w (vX w t)
def ais (pb:Nat)(w2:World)(kd:Int)(l:List T)(a:Int)(s7 s8 s9:Value)(wx:World):Prop :=
 ∃ (y z:Int)(A9:Option Addr)(n9 c9:Nat),s7=.int .i64 y∧s8=.int .i64 z∧s9=.slice A9 n9 c9∧Below pb w2 wx∧pb<wx.heap.size ∧
   (y=0→∃ a0:PA,n9=dY kd∧dY kd≤l.length∧fA w2 pb A9 (l.drop (l.length-dY kd)) ∧
     wx.heap[pb]?=some (.cells #[.int .i64 (eU kd l).k,.string (eU kd l).nm,.slice a0.ea (eU kd l).ex.length a0.ec,.slice a0.ca (eU kd l).cols.length a0.cc,.slice a0.la (eU kd l).left.length a0.lc,.slice a0.ra (eU kd l).right.length a0.rc,.slice a0.ga (eU kd l).ag.length a0.gc,.slice none 0 0] 27 (0,0)) ∧
     nU wx (fun k=>pb<k∧k<wx.heap.size) (eU kd l) a0∧iR kd l a (0,0)=(0,0))∧(y≠0→¬yg kd l)
def aeY (pb:Nat)(w2 wc:World)(a0:PA)(p0:P)(ks:List T)(s7 s8 i:Value)(wr:World):Prop :=
 ∃ (j:Nat)(ps:List QP)(v:Value)(y z:Int),j≤ks.length∧i=.int .i64 j∧s7=.int .i64 y∧s8=.int .i64 z∧ps.length=j ∧
   wr.heap[pb]?=some (.cells #[.int .i64 p0.k,.string p0.nm,.slice a0.ea p0.ex.length a0.ec,.slice a0.ca p0.cols.length a0.cc,.slice a0.la p0.left.length a0.lc,.slice a0.ra p0.right.length a0.rc,.slice a0.ga p0.ag.length a0.gc,v] 27 (0,0)) ∧
   wr.ownsRow wc.heap.size 27 8 v j (nI ps)∧(∀ p∈ps,kY wr (fun k=>wc.heap.size≤k∧k<wr.heap.size∧v.ownBlock≠some k) p.1 p.2) ∧
   Below pb w2 wr∧(∀ k,pb<k→k<wc.heap.size→wr.heap[k]?=wc.heap[k]?)∧wc.heap.size≤wr.heap.size ∧
   (y=0→(ks.take j).map (fun t=>fU t (0,0))=ps.map fun p=>(p.1,((0:Int),(0:Int))))∧(y≠0→∃ x∈ks,¬sH x)
theorem Tt {pb:Nat} {w2 wc wr wx w3 w4 w5:World} {a0 aq:PA} {p0 q:P} {ks:List T} {j g' cap:Nat} {x:T} {ps:List QP} {v:Value} {y z:Int}
 (hx:ks[j]?=some x)(hpl:ps.length=j)(KW:pb<wc.heap.size)
 (hown:wr.ownsRow wc.heap.size 27 8 v j (nI ps))(hxk:∀ p∈ps,kY wr (fun k=>wc.heap.size≤k∧k<wr.heap.size∧v.ownBlock≠some k) p.1 p.2)
 (ho:Below pb w2 wr)(hold:∀ k,pb<k→k<wc.heap.size→wr.heap[k]?=wc.heap[k]?)(CZ:wc.heap.size≤wr.heap.size)
 (hz:(ks.take j).map (fun t=>fU t (0,0))=ps.map fun p=>(p.1,((0:Int),(0:Int))))
 (hst:(y=0∧fU x (0,0)=(q,0,0))∨(y≠0∧q=gq∧¬sH x))
 (hbx:Below wr.heap.size wr wx)(hsx:wr.heap.size<wx.heap.size)(hb3:Below wx.heap.size wx w3)(hX:kY w3 (fun k=>wx.heap.size≤k∧k<w3.heap.size) q aq)
 (h4:∀ k,k<w3.heap.size→k≠wr.heap.size→w4.heap[k]?=w3.heap[k]?)(hs4:w3.heap.size≤w4.heap.size)(vJ:Below wr.heap.size w3 w4)
 (hg5:w4.grownBy w5 v.ownBlock)(iJ:w5.ownsRow wc.heap.size 27 8 (.slice (some ⟨g',0,none⟩) (j+1) cap) (j+1) (nI ps++QP.cs (q,aq)))
 (hat:v.ownBlock=some g'∨w4.heap.size≤g')
 (he5:w5.heap[pb]?=some (.cells #[.int .i64 p0.k,.string p0.nm,.slice a0.ea p0.ex.length a0.ec,.slice a0.ca p0.cols.length a0.cc,.slice a0.la p0.left.length a0.lc,.slice a0.ra p0.right.length a0.rc,.slice a0.ga p0.ag.length a0.gc,v] 27 (0,0))) :
 aeY pb w2 wc a0 p0 ks (.int .i64 y) (.int .i64 z) (.int .i64 ((j:Int)+1)) (w5.setCell ⟨pb,7,none⟩ (.slice (some ⟨g',0,none⟩) (j+1) cap)):=by
 have hj:j<ks.length:=(aV.1 hx).1
 have s1:=hbx.size
 have s2:=hb3.size
 have s5:=hg5.size
 have hv1:∀ k,v.ownBlock=some k→wc.heap.size≤k∧k<wr.heap.size:=fun k e=>hown.lt k e
 have hX':kY w4 (fun k=>wr.heap.size≤k∧k<w4.heap.size) q aq:=(hX.kept fun k hk=>h4 k hk.2 (by have:=hk.1;omega)).mono fun k hk=>⟨by have:=hk.1;omega,by have:=hk.2;omega⟩
 have hne:g'≠pb:=fun e=>by
  rcases hat with h|h
  ·have:=hv1 g' h;omega
  ·omega
 have hoth:∀ k,k≠pb→k<wr.heap.size→v.ownBlock≠some k→(w5.setCell ⟨pb,7,none⟩ (.slice (some ⟨g',0,none⟩) (j+1) cap)).heap[k]?=wr.heap[k]?:=fun k h1 h3 h5 =>
  (aI w5 ⟨pb,7,none⟩ _ k h1).trans ((hg5.block k (by omega) fun e=>h5 e.symm).trans ((h4 k (by omega) (by omega)).trans ((hb3.block k (by omega)).trans (hbx.block k h3))))
 have U7:∀ k,wr.heap.size≤k→k<w4.heap.size→(w5.setCell ⟨pb,7,none⟩ (.slice (some ⟨g',0,none⟩) (j+1) cap)).heap[k]?=w4.heap[k]?:=fun k h1 h2 =>
  (aI w5 ⟨pb,7,none⟩ _ k (by show k≠pb;omega)).trans (hg5.block k h2 fun e=>by have:=(hv1 k e.symm).2;omega)
 have h6:(w5.setCell ⟨pb,7,none⟩ (.slice (some ⟨g',0,none⟩) (j+1) cap)).heap.size=w5.heap.size:=by simp[World.setCell]
 refine⟨j+1,ps++[(q,aq)],.slice (some ⟨g',0,none⟩) (j+1) cap,y,z,hj,by simp,rfl,rfl,by rw[aZ,hpl];rfl,jm (k:=7) he5,?_,?_,?_,?_,by omega,?_,fun hy=>⟨x,aN hx,by rcases hst with⟨h,_⟩|⟨_,_,h⟩;exact absurd h hy;exact h⟩⟩
 ·rw[yR,Aq]
  exact nK iJ (aI w5 ⟨pb,7,none⟩ _ g' hne)
 ·refine Ko hxk hX' CZ (fun k h1 h2 h3=>hoth k (by omega) h2 h3) (fun k h1 h2=>U7 k h1 h2) (by omega) (by rw[h6];exact s5) (fun k e=>(hv1 k e).2) ?_
  rcases hat with h|h
  ·exact .inl h.symm
  ·exact .inr ⟨g',rfl,h⟩
 ·exact ((((ho.trans (hbx.mono (by omega))).trans (hb3.mono (by omega))).trans (vJ.mono (by omega))).grown hg5 (by omega) (fun k e=>by have:=(hv1 k e).1;omega)).setCell (p:=⟨pb,7,none⟩) (aF _) _
 ·intro k h1 h2
  exact (hoth k (by omega) (by omega) (fun e=>by have:=(hv1 k e).1;omega)).trans (hold k h1 h2)
 ·intro h0
  rcases hst with⟨_,h⟩|⟨h,_⟩
  ·rw[jU (fun t=>fU t (0,0)) hx,hz,h,List.map_append]
   rfl
  ·exact absurd h0 h
theorem ET:∀ (l:List T)(ps:List QP),l.map (fun t=>fU t (0,0))=ps.map (fun p=>(p.1,((0:Int),(0:Int))))→gu l 0 (0,0)=(ps.map Prod.fst,0,0)
 | [],ps,h=>by
   cases ps with
   | nil=>rw[gu];rfl
   | cons p ps=>simp at h
 | x::l,ps,h=>by
   cases ps with
   | nil=>simp at h
   | cons p ps =>
     rw[List.map_cons,List.map_cons] at h
     injection h with h1 h2
     rw[gu,h1,ET l ps h2]
     rfl
theorem V5 {k n a:Int} {s:ByteArray} {l:List T} {kd:Int} {ps:List QP} (hkd:jK (.mk k s n l a)=kd)(hb:iR kd l a (0,0)=(0,0)) {j:Nat} (hj:¬j<(l.drop (l.length-dY kd)).length)
 (hz:((l.drop (l.length-dY kd)).take j).map (fun t=>fU t (0,0))=ps.map fun p=>(p.1,((0:Int),(0:Int)))):fU (.mk k s n l a) (0,0)=((eU kd l).put (ps.map Prod.fst),0,0):=by
 rw[bJ (by omega)] at hz
 rw[fU,hkd,lq,hb,ET _ _ hz]
theorem jb {fn:Func} {p q r:Tmp} (h:fn.results=#[.cell p 27,.tmp q,.tmp r]) {tmps:Array Value} {w:World} {g:Nat} {x0 x1 x2 x3 x4 x5 x6 x7 u v:Value} {t:TypeId}
 (hp:tmps.getD p undef=.pointer (some ⟨g,0,none⟩))(hq:tmps.getD q undef=u)(hr:tmps.getD r undef=v)(hg:w.heap[g]?=some (.cells #[x0,x1,x2,x3,x4,x5,x6,x7] t (0,0))):(results fn tmps).run Tryz.prog w=.ok (.tuple #[.agg #[x0,x1,x2,x3,x4,x5,x6,x7],u,v]) w:=by
 have hp':tmps[p]?.getD undef=.pointer (some ⟨g,0,none⟩):=by simpa using hp
 have hq':tmps[q]?.getD undef=u:=by simpa using hq
 have hr':tmps[r]?.getD undef=v:=by simpa using hr
 have hl:=run_loadVar_row (P:=Tryz.prog) w g t 27 #[x0,x1,x2,x3,x4,x5,x6,x7] (0,0) _ hg Tryz.underlying27 rfl (by show _=some 8;kernel_rfl)
 simp[results,h,hp',hq',hr',asAddr,hl]
theorem Iy (w:World)(S:Nat→Prop):kY w S gq ru:=⟨kJ _ _ _ _,.nil _⟩
theorem sJ {w w':World} {t:T} {e:Ending} {why at_:Int} (hna:¬sH t)(hw:why≠0)(he:e=.returned (.tuple #[.agg #[.int .i64 0,.string ⟨#[]⟩,.slice none 0 0,.slice none 0 0,.slice none 0 0,.slice none 0 0,.slice none 0 0,.slice none 0 0],.int .i64 why,.int .i64 at_]))(hb:Below w.heap.size w w'):vX w t e w' :=
 ⟨⟨ru,gq,why,at_,he,Iy _ _,.inr ⟨hw,rfl,hna⟩⟩,hb⟩
theorem Sr:T.Good dW:=.mk _ _ _ _ _ (by decide) (by decide) (by decide) (by decide) (by simp) (fun e he=>by cases he)
def PK (b:Nat)(t:T):Prop:=uG (ja t)∧(jr (ja t)).length≤b
theorem PK.mono {b b':Nat} {t:T} (h:PK b t)(hb:b≤b'):PK b' t:=⟨h.1,aS h.2 hb⟩
def lL (l:List (List UInt8)):Nat:=(l.map fun x=>x.length+1).sum
theorem zF:∀ l:List (List UInt8),(Lib.joinTail [32] l).length≤lL l
 | []=>by simp[Lib.joinTail]
 | x::l=>by
   have h:=zF l
   have e:Lib.joinTail [32] (x::l)=([32]++x)++Lib.joinTail [32] l:=by simp[Lib.joinTail]
   rw[e]
   simp only[lL,List.map_cons,List.sum_cons,aZ,bf,List.length_nil] at h ⊢
   omega
theorem zG (l:List (List UInt8)):(Lib.join l [32]).length≤lL l:=by
 cases l with
 | nil=>simp[Lib.join_nil]
 | cons x l =>
   have h:=zF l
   rw[Lib.join_cons]
   simp only[lL,List.map_cons,List.sum_cons,aZ] at h ⊢
   omega
theorem vM (a b:List (List UInt8)):lL (a++b)=lL a+lL b:=by simp[lL]
theorem Je (l:List (List UInt8))(b:Nat)(h:∀ x∈l,x.length≤b):lL l≤l.length*(b+1):=by
 induction l with
 | nil=>simp[lL]
 | cons x l ih =>
   have h1:=h x bH
   have h2:=ih fun y hy=>h y (bG _ hy)
   have hm:(l.length+1)*(b+1)=l.length*(b+1)+(b+1):=Nat.succ_mul _ _
   simp only[lL,List.map_cons,List.sum_cons,bf] at h2 ⊢
   omega
theorem Ii (s:ByteArray)(n a:Int)(l:List T):ja (.mk 1 s n l a)=jM (l.map ja):=zu (t:=.mk 1 s n l a) rfl
theorem sD (l:List T):jr (jM l)=40::(Lib.join (kX l) [32]++[41]):=by unfold jM;rw[jr,if_pos rfl]
theorem Qs {s:ByteArray} {n a:Int} {l:List T} {m b1 b2:Nat} (hl:l.length≤600)(h1:∀ t∈l.take m,PK b1 t)(h2:∀ t∈l.drop m,PK b2 t)(hd:(l.drop m).length≤2)(hb:600*(b1+1)+2*(b2+1)+2≤100000000000000) :
 PK (600*(b1+1)+2*(b2+1)+2) (.mk 1 s n l a):=by
 have hall:∀ t∈l,uG (ja t):=fun t ht=>by
  rw[←List.take_append_drop m l] at ht
  rcases cu.1 ht with ht|ht
  ·exact (h1 t ht).1
  ·exact (h2 t ht).1
 have hj:=zG (kX (l.map ja))
 have hs:lL (kX (l.map ja))≤600*(b1+1)+2*(b2+1):=by
  have e:kX (l.map ja)=kX ((l.take m).map ja)++kX ((l.drop m).map ja):=by
   rw[kL,kL,kL,←List.map_append,←List.map_append,List.take_append_drop]
  rw[e,vM]
  have g1:=Je (kX ((l.take m).map ja)) b1 (fun x hx=>by
   rw[kL,List.map_map] at hx
   obtain⟨t,ht,rfl⟩:=List.mem_map.1 hx
   exact (h1 t ht).2)
  have g2:=Je (kX ((l.drop m).map ja)) b2 (fun x hx=>by
   rw[kL,List.map_map] at hx
   obtain⟨t,ht,rfl⟩:=List.mem_map.1 hx
   exact (h2 t ht).2)
  rw[nV,bM] at g1 g2
  have k1:(l.take m).length*(b1+1)≤600*(b1+1):=Nat.mul_le_mul_right _ (by rw[List.length_take];omega)
  have k2:(l.drop m).length*(b2+1)≤2*(b2+1):=Nat.mul_le_mul_right _ hd
  omega
 rw[PK,Ii,sD]
 refine⟨.mk _ _ _ _ _ (by decide) (by decide) (fun _=>⟨by rw[bM];exact hl,by omega⟩) (fun _ e he=>?_),?_⟩
 ·obtain⟨t,ht,rfl⟩:=List.mem_map.1 he
  exact hall t ht
 ·simp only[bf,aZ,List.length_nil]
  omega
theorem Jf {t:T} (hk:t.k=2)(hg:t.Good):PK 600 t:=by
 obtain⟨k,s,n,l,a⟩:=t
 obtain⟨_,_,_,_,_,_,_,hs,_,_,_⟩:=hg
 rw[PK,vI hk]
 refine⟨.mk _ _ _ _ _ (by decide) (by decide) (fun h=>by simp at h) (fun h=>by simp at h),?_⟩
 have p2:jr (gz s)=s.data.toList:=by unfold gz;rw[jr,if_neg (by decide),if_pos rfl]
 show (jr (gz s)).length≤600
 rw[p2,Array.length_toList]
 exact hs
theorem Vo {t:T} (h:jy t=true)(hg:t.Good):PK 362000 t:=by
 obtain⟨k,s,n,l,a⟩:=t
 obtain⟨_,_,_,_,_,_,_,hs,_,hl,hk⟩:=hg
 unfold jy at h
 simp only[T.k,T.kids,Bool.and_eq_true,beq_iff_eq,List.all_eq_true] at h
 obtain⟨rfl,hat⟩:=h
 refine (Qs (m:=l.length) (b1:=600) (b2:=0) hl (fun t ht=>?_) (fun t ht=>by simp at ht) (by simp) (by decide)).mono (by decide)
 have ht':=List.mem_of_mem_take ht
 exact Jf (hat t ht') (hk t ht')
theorem Qu {t:T} {d:Nat} (hd:d≤13)(hg:t.Good)(hdp:t.Deep d)(hr:(dX t).2.1=0):PK (700*5 ^ d) t:=by
 obtain⟨_,h2,h3,h4⟩:=aaP t d hd hg hdp hr
 exact⟨h2,by rw[h3];exact h4⟩
theorem Ij {d:Nat} {k:Int} {s:ByteArray} {n:Int} {l:List T} {a:Int} (h:T.Deep (d+1) (.mk k s n l a)):∀ e∈l,T.Deep d e:=by
 cases h;assumption
theorem Lc {d:Nat} {t:T} (h:T.Deep d t):∃ d',d=d'+1:=by cases h;exact⟨_,rfl⟩
theorem aaQ {t:T} {d:Nat} (hd:d+1≤13)(hc:fE t=true)(hg:t.Good)(hdp:t.Deep (d+1))(hr:(dX (t.kids.getD 1 dW)).2.1=0):PK (700*5 ^ d+700) t:=by
 obtain⟨k,s,n,l,a⟩:=t
 obtain⟨_,_,_,_,_,_,_,hs,_,hl,hk⟩:=hg
 have hdk:=Ij hdp
 unfold fE at hc
 simp only[T.k,T.kids,Bool.and_eq_true,beq_iff_eq] at hc hr
 obtain⟨rfl,h2,h3⟩:=hc
 match l,h2 with
 | [x,y],_ =>
   have h1:=Jf (show x.k=2 from h3) (hk x (by simp))
   have hr':(dX y).2.1=0:=hr
   have g1:=Qu (by omega) (hk y (by simp)) (hdk y (by simp)) hr'
   rw[PK,Ii,sD]
   have h5:5 ^ d≤5 ^ 12:=Nat.pow_le_pow_right (by decide) (by omega)
   have ad1:(5:Nat) ^ 12=244140625:=by decide
   have hj:=zG (kX ([x,y].map ja))
   have e:lL (kX ([x,y].map ja))=(jr (ja x)).length+1+((jr (ja y)).length+1):=by simp[kX,lL]
   have q1:=h1.2
   have q2:=g1.2
   refine⟨.mk _ _ _ _ _ (by decide) (by decide) (fun _=>⟨by simp,by omega⟩) (fun _ e he=>?_),?_⟩
   ·simp only[List.map_cons,List.map_nil,bZ,bI,or_false] at he
    rcases he with rfl|rfl
    ·exact h1.1
    ·exact g1.1
   ·simp only[bf,aZ,List.length_nil]
    omega
def PB (d:Nat):Nat:=28000*5 ^ d+220000000*(2 ^ d-1)
theorem Yc {d:Nat}:600*(140*5 ^ d+362000+1)+2*(PB d+1)+2≤PB (d+1):=by
 unfold PB
 rw[Nat.pow_succ,Nat.pow_succ]
 have h5:1≤5 ^ d:=Nat.one_le_pow _ _ (by decide)
 have h3:1≤2 ^ d:=Nat.one_le_pow _ _ (by decide)
 omega
theorem Vp {d:Nat} (h:d≤12):PB d≤8000000000000:=by
 unfold PB
 have h5:5 ^ d≤5 ^ 12:=Nat.pow_le_pow_right (by decide) h
 have h3:2 ^ d≤2 ^ 12:=Nat.pow_le_pow_right (by decide) h
 have e5:(5:Nat) ^ 12=244140625:=by decide
 have e3:(2:Nat) ^ 12=4096:=by decide
 omega
theorem Es:∀ (l:List T)(s:jL),(gu l 0 s).2.1=0→∀ t∈l,(fU t s).2.1=0
 | [],_,_,t,ht=>by cases ht
 | x::l,s,h,t,ht=>by
   rw[gu] at h
   have h1:=(nX l (fun t _=>mX t) _ h).1
   simp only at h
   have h2:(fU x s).2.1=0:=by rw[←h1];exact h
   have h3:=(mX x s h2).1
   rcases bZ.1 ht with rfl|ht
   ·exact h2
   ·rw[h3] at h
    exact Es l s h t ht
theorem Yd {x:T} {w:List UInt8} (h:ja x=gz ⟨w.toArray⟩)(hw:w.length≤600):PK 600 x:=by
 rw[PK,h]
 refine⟨.mk _ _ _ _ _ (by decide) (by decide) (fun h=>by simp at h) (fun h=>by simp at h),?_⟩
 have p2:jr (gz ⟨w.toArray⟩)=w:=by unfold gz;rw[jr,if_neg (by decide),if_pos rfl]
 rw[p2]
 exact hw
theorem Ye:∀ t:T,∀ d,d≤13→t.Good→t.Deep d→(fU t (0,0)).2.1=0→PK (PB d) t:=T.ind fun k s n l a ih d hd hg hdp h=>by
 obtain⟨d,rfl⟩:=Lc hdp
 have hdk:=Ij hdp
 obtain⟨_,_,_,_,_,_,_,_,_,Aw,hgk⟩:=hg
 rw[fU] at h
 simp only at h
 have hall:=zt (lh (.mk k s n l a)).toList l
 rw[show gJ (lh (.mk k s n l a)).toList l=jK (.mk k s n l a) from rfl] at hall
 generalize jK (.mk k s n l a)=kd at *
 rw[lq] at h
 obtain⟨h1,_,_⟩:=nX (l.drop (l.length-dY kd)) (fun t _=>mX t) _ h
 have h':=h
 rw[h1] at h'
 obtain⟨b1,b2,b3,b4,b5,b6⟩:=Ed h'
 rw[b1] at h
 have hpl:=Es _ _ h
 have hmax:=Vp (d:=d) (by omega)
 have h5:5 ^ d≤5 ^ 12:=Nat.pow_le_pow_right (by decide) (by omega)
 have ad1:(5:Nat) ^ 12=244140625:=by decide
 have key:∀ w:List UInt8,∀ kn:Nat,(lh (.mk k s n l a)).toList=w→w≠[]→w.length≤600→kn≤2→kn≤l.length→(∀ x r,l=x::r→∀ t∈r.take (l.length-kn-1),PK (140*5 ^ d+362000) t)→(∀ t∈l.drop (l.length-kn),PK (PB d) t)→PK (PB (d+1)) (.mk k s n l a):=by
  intro w kn hw hw0 hwl hk2 hkl hm hdr
  obtain⟨hk1,x,r,hlx,hx⟩:=Hu hw hw0
  simp only[T.k,T.kids] at hk1 hlx
  subst hk1
  refine (Qs (m:=l.length-kn) (b1:=140*5 ^ d+362000) (b2:=PB d) Aw (fun t ht=>?_) (fun t ht=>?_) (by rw[List.length_drop];omega) (by omega)).mono Yc
  ·have hmr:=hm x r hlx
   rw[hlx] at ht hmr
   cases hq:(x::r).length-kn with
   | zero=>rw[hq] at ht;simp at ht
   | succ q =>
     rw[hq,List.take_succ_cons] at ht
     rw[hq] at hmr
     rcases bZ.1 ht with rfl|ht
     ·exact (Yd hx hwl).mono (by omega)
     ·exact hmr t (by simpa using ht)
  ·exact hdr t ht
 have hdr:∀ t∈l.drop (l.length-dY kd),PK (PB d) t:=fun t ht=>by
  have ZO:=List.mem_of_mem_drop ht
  exact ih t ZO d (by omega) (hgk t ZO) (hdk t ZO) (hpl t ht)
 have hat:∀ {t:T},jy t=true→t∈l→PK (140*5 ^ d+362000) t:=fun ha ht=>(Vo ha (hgk _ ht)).mono (by omega)
 rcases hall with e|⟨e,hw,hl,ha⟩|⟨e,hw,hl⟩|⟨e,hw,hl,ha⟩|⟨e,hw,hl,ha,hb⟩|⟨e,hw,hl⟩|⟨e,hw,hl⟩|⟨e,hw,hl,ha,hb⟩
 ·omega
 ·subst e
  refine key _ (dY 1) hw (by decide) (by decide) (by decide) (by rw[show dY 1=0 from rfl];omega) (fun x r hx t ht=>?_) hdr
  subst hx
  match r,hl with
  | [y],_ =>
    obtain rfl:t=y:=by simpa [dY] using ht
    exact (Jf (by simpa using ha) (hgk t (by simp))).mono (by omega)
 ·subst e
  refine key _ 2 hw (by decide) (by decide) (by decide) (by omega) (fun x r hx t ht=>?_) (fun t ht=>?_)
  ·subst hx
   match r,hl with
   | [y,z],_=>simp at ht
  ·match l,hl with
   | [x,y,z],_ =>
     simp only[bf,List.length_nil,List.drop_succ_cons,List.drop_zero,bZ,bI,or_false] at ht
     rcases ht with rfl|rfl
     ·refine (Qu (by omega) (hgk t (by simp)) (hdk t (by simp)) (by simpa using b2 rfl)).mono ?_
      unfold PB
      omega
     ·exact hdr t (by simp[dY])
 ·subst e
  refine key _ (dY 3) hw (by decide) (by decide) (by decide) (by rw[show dY 3=1 from rfl];omega) (fun x r hx t ht=>?_) hdr
  subst hx
  have hm:fV (x::r) 1=r.take ((x::r).length-dY 3-1):=by
   unfold fV
   rw[List.drop_succ_cons,List.drop_zero]
   rfl
  rw[←hm] at ht
  have htl:t∈x::r:=List.mem_of_mem_drop (List.mem_of_mem_take ht)
  obtain⟨d',rfl⟩:=Lc (hdk t htl)
  refine (aaQ (by omega) (List.all_eq_true.1 ha t ht) (hgk t htl) (hdk t htl) (b3 rfl t ht)).mono ?_
  rw[Nat.pow_succ]
  omega
 ·subst e
  refine key _ (dY 4) hw (by decide) (by decide) (by decide) (by rw[show dY 4=2 from rfl];omega) (fun x r hx t ht=>?_) hdr
  subst hx
  match r,hl with
  | [y1,y2,y3,y4],_ =>
    have:t=y1∨t=y2:=by simpa [dY] using ht
    rcases this with rfl|rfl
    ·exact hat (by simpa using ha) (by simp)
    ·exact hat (by simpa using hb) (by simp)
 ·subst e
  refine key _ (dY 5) hw (by decide) (by decide) (by decide) (by rw[show dY 5=2 from rfl];omega) (fun x r hx t ht=>?_) hdr
  subst hx
  rw[show (x::r).length-dY 5-1=0 by rw[hl];rfl] at ht
  simp at ht
 ·subst e
  refine key _ (dY 6) hw (by decide) (by decide) (by decide) (by rw[show dY 6=1 from rfl];omega) (fun x r hx t ht=>?_) hdr
  subst hx
  rw[show (x::r).length-dY 6-1=0 by rw[hl];rfl] at ht
  simp at ht
 ·subst e
  refine key _ (dY 7) hw (by decide) (by decide) (by decide) (by rw[show dY 7=1 from rfl];omega) (fun x r hx t ht=>?_) hdr
  subst hx
  match r with
  | []=>simp at hl
  | y::r =>
    have e:(x::y::r).length-dY 7-1=r.length-1+1:=by simp[dY] at hl ⊢;omega
    rw[e,List.take_succ_cons] at ht
    rcases bZ.1 ht with rfl|ht
    ·exact hat (by simpa using ha) (by simp)
    ·have hm:t∈fV (x::y::r) 2:=by
      unfold fV
      rw[List.drop_succ_cons,List.drop_succ_cons,List.drop_zero]
      rw[show (x::y::r).length-1-2=r.length-1 by simp]
      exact ht
     exact hat (I8 (List.all_eq_true.1 hb t hm)).1 (by simp[List.mem_of_mem_take ht])
theorem OB (s:ByteArray)(w:World):Calls Tryz.prog 129 #[.string s] w fun e w'=>e=.returned (.string ⟨(uA s).toArray⟩)∧Below w.heap.size w w':=by
 have hr:=ae (Sz 2 0 s (by decide) (by decide) w)
 rw[show y8 ⟨2,0,s⟩=uA s from by unfold y8 uA;rfl] at hr
 go_enter Tryz.func129,Tryz.ntmps129
 go_wp2_with fail
 refine (hr.o).mono ?_
 rintro e w' ⟨rfl,hb⟩
 have HB:=ae hb
 clear hb
 go_wp2_with fail
 go_ret
 exact⟨rfl,HB.o⟩
def gm (l:List (List UInt8))(j:Nat):List UInt8:=40::Lib.join (l.take j) [32]
theorem SB (l:List (List UInt8))(x:List UInt8):Lib.join (l++[x]) [32]=if l=[] then x else Lib.join l [32]++32::x:=by
 cases l with
 | nil=>simp[Lib.join]
 | cons y l =>
   rw[if_neg (by simp),List.cons_append,Lib.join_cons,Lib.join_cons,List.append_assoc]
   congr 1
   induction l with
   | nil=>simp[Lib.joinTail]
   | cons z l ih=>simp only[List.cons_append,Lib.joinTail] at ih ⊢;simp[Lib.joinTail,ih]
theorem Ik (l:List (List UInt8)):gm l 0=[40]:=by simp[gm,Lib.join]
theorem Ll {l:List (List UInt8)} {x:List UInt8} (h:l[0]?=some x):gm l 1=gm l 0++x:=by
 unfold gm
 rw[List.take_add_one,h]
 simp[Lib.join]
theorem Ba {l:List (List UInt8)} {j:Nat} {x:List UInt8} (h:l[j]?=some x)(hj:0<j):gm l (j+1)=(gm l j++[32])++x:=by
 have hl:j<l.length:=(aV.1 h).1
 unfold gm
 rw[List.take_add_one,h]
 show 40::Lib.join (l.take j++[x]) [32]=_
 rw[SB,if_neg (by
  intro e
  have:=congrArg List.length e
  simp only[List.length_take,List.length_nil] at this
  omega)]
 simp
theorem Eu (l:List (List UInt8))(j:Nat):(gm l j).length≤lL l+1:=by
 have h:=zG (l.take j)
 have e:lL l=lL (l.take j)+lL (l.drop j):=by rw[←vM,List.take_append_drop]
 unfold gm
 rw[bf]
 omega
theorem lC (a b:List UInt8):(⟨a.toArray⟩:ByteArray)++⟨b.toArray⟩=⟨(a++b).toArray⟩:=by
 apply ByteArray.ext
 simp[ByteArray.data_append]
theorem kW (a:List UInt8):(⟨a.toArray⟩:ByteArray).size=a.length:=rfl
theorem vO (l:List ByteArray)(hl:l.length≤600)(hs:∀ x∈l,x.size≤600)(A:Option Addr)(c:Nat)(w:World)(hA:Lies w (fun k=>k<w.heap.size) A (strs l)) :
 Calls Tryz.prog 89 #[.slice A l.length c] w fun e w'=>e=.returned (.string ⟨(jr (iO l)).toArray⟩)∧w=w':=by
 obtain⟨n,en⟩:∃ n,n=l.length:=⟨_,rfl⟩
 obtain⟨L,hL⟩:∃ L,L=l.map fun x=>x.data.toList:=⟨_,rfl⟩
 have hLn:L.length=n:=by rw[hL,bM,en]
 have hpr:jr (iO l)=gm L n++[41]:=by
  unfold iO
  rw[sD,kL,List.map_map]
  have:(l.map (jr ∘ gz))=L:=by
   rw[hL]
   refine List.map_congr_left fun x _=>?_
   show jr (gz x)=_
   unfold gz
   rw[jr,if_neg (by decide),if_pos rfl]
  rw[this]
  unfold gm
  rw[bJ (Nat.le_of_eq hLn)]
  rfl
 have hsum:lL L≤360600:=by
  have:=Je L 600 (fun x hx=>by
   rw[hL] at hx
   obtain⟨y,hy,rfl⟩:=List.mem_map.1 hx
   rw[Array.length_toList]
   exact hs y hy)
  rw[hLn] at this
  have h2:n*601≤600*601:=Nat.mul_le_mul_right _ (by omega)
  omega
 have aht:Hid (∀ j,j<n→∃ x:List UInt8,L[j]?=some x∧x.length≤600∧∃ b o,A=some ⟨b,o,none⟩∧w.cell? ⟨b,o+j,none⟩=some (.string ⟨x.toArray⟩)):=ae (fun j hj=>by
  obtain⟨y,hx⟩:∃ y,l[j]?=some y:=⟨_,aO (by omega)⟩
  have hcell:(strs l)[j]?=some (.string y):=by unfold strs;rw[bP,hx];rfl
  rcases hA with h0|⟨b,o,hA,_,hc⟩
  ·rw[h0] at hcell;simp at hcell
  ·refine⟨y.data.toList,by rw[hL,bP,hx];rfl,by rw[Array.length_toList];exact hs _ (aN hx),b,o,hA,?_⟩
   rw[hc j _ hcell,ba_eq])
 rw[hpr,←en]
 have HS:=ae hsum
 have hln:n≤600:=by omega
 clear hA hs hL hLn hpr hsum en hl
 go_enter Tryz.func89,Tryz.ntmps89
 go_wp2_with fail
 go_loopw [3,4] (fun s i wr=>∃ j:Nat,j≤n∧i=.int .i64 j∧s=.string ⟨(gm L j).toArray⟩∧wr=w) (fun _ i _=>n-(intOf i).toNat)
 case atStart=>exact⟨0,aX _,rfl,by rw[Ik],by first|rfl|trivial⟩
 case round =>
  obtain⟨j,hj,rfl,rfl,rfl⟩:=hrel
  have hlen:=Eu L j
  have hs:=HS.o
  by_cases hlt:j<n
  ·obtain⟨x,hx,hxl,b,o,rfl,hcx⟩:=aht.o j hlt
   cases j with
   | zero =>
     have hst:=ae (Ll hx)
     have HB:Hid ((⟨(gm L 0).toArray⟩:ByteArray)++⟨x.toArray⟩=⟨(gm L 1).toArray⟩):=ae (by rw[lC,hst.o])
     have hz:¬9223372036854775807<(⟨(gm L 0).toArray⟩:ByteArray).size+(⟨x.toArray⟩:ByteArray).size:=by rw[kW,kW];omega
     have hz1:(⟨(gm L 0).toArray⟩:ByteArray).size+(⟨x.toArray⟩:ByteArray).size≤9223372036854775807:=by omega
     rw[Nat.add_zero] at hcx
     clear hx hst hlen
     generalize (⟨(gm L 0).toArray⟩:ByteArray)=p0 at *
     generalize (⟨x.toArray⟩:ByteArray)=xb at *
     go_wp2_with fail
     go_roundw
     case rel=>exact⟨1,by omega,by go_num,by rw[HB.o],by first|rfl|trivial⟩
     case measure=>simp[intOf];omega
   | succ j =>
     have hst:=ae (Ba hx (by omega))
     have HB:Hid (((⟨(gm L (j+1)).toArray⟩:ByteArray)++⟨#[32]⟩)++⟨x.toArray⟩=⟨(gm L (j+1+1)).toArray⟩):=ae (by
      rw[show (⟨#[32]⟩:ByteArray)=⟨[32].toArray⟩ from rfl,lC,lC,hst.o])
     have hz:¬9223372036854775807<((⟨(gm L (j+1)).toArray⟩:ByteArray)++⟨#[32]⟩).size+(⟨x.toArray⟩:ByteArray).size:=by have h1:(⟨#[32]⟩:ByteArray).size=1:=rfl;simp only[bT,kW,bf,List.length_nil];omega
     have hz2:¬9223372036854775807<(⟨(gm L (j+1)).toArray⟩:ByteArray).size+(⟨#[32]⟩:ByteArray).size:=by have h1:(⟨#[32]⟩:ByteArray).size=1:=rfl;have h2:(⟨#[41]⟩:ByteArray).size=1:=rfl;simp only[kW,bf,List.length_nil];omega
     have hj0:(0:Int)<(j:Int)+1:=by omega
     clear hx hst hlen
     generalize (⟨(gm L (j+1)).toArray⟩:ByteArray)=p0 at *
     generalize (⟨x.toArray⟩:ByteArray)=xb at *
     go_wp2_with fail
     go_roundw
     case rel=>exact⟨j+1+1,by omega,by go_num,by rw[HB.o],by first|rfl|trivial⟩
     case measure=>simp[intOf];omega
  ·obtain rfl:j=n:=by omega
   have HB:Hid ((⟨(gm L j).toArray⟩:ByteArray)++⟨#[41]⟩=⟨(gm L j++[41]).toArray⟩):=ae (by rw[show (⟨#[41]⟩:ByteArray)=⟨[41].toArray⟩ from rfl,lC])
   have hz2:¬9223372036854775807<(⟨(gm L j).toArray⟩:ByteArray).size+(⟨#[41]⟩:ByteArray).size:=by have h1:(⟨#[32]⟩:ByteArray).size=1:=rfl;have h2:(⟨#[41]⟩:ByteArray).size=1:=rfl;simp only[kW,bf,List.length_nil];omega
   clear hlen
   generalize (⟨(gm L j).toArray⟩:ByteArray)=p0 at *
   go_wp2_with fail
   go_ret
   exact⟨congrArg (fun x:ByteArray=>Ending.returned (Value.string x)) HB.o,by first|rfl|trivial⟩
theorem BO:∀ l:List (List UInt8),(Lib.joinTail [32] l).length=lL l
 | []=>by simp[Lib.joinTail,lL]
 | x::l=>by
   have h:=BO l
   have e:Lib.joinTail [32] (x::l)=([32]++x)++Lib.joinTail [32] l:=by simp[Lib.joinTail]
   rw[e]
   simp only[lL,List.map_cons,List.sum_cons,aZ,bf,List.length_nil] at h ⊢
   omega
theorem join_eq (l:List (List UInt8)):lL l≤(Lib.join l [32]).length+1:=by
 cases l with
 | nil=>simp[lL]
 | cons x l =>
   have h:=BO l
   rw[Lib.join_cons]
   simp only[lL,List.map_cons,List.sum_cons,aZ] at h ⊢
   omega
theorem Qw {l:List (List UInt8)} {j:Nat} {x:List UInt8} (h:l[j]?=some x):(gm l j).length+x.length≤lL l+1:=by
 have hj:j<l.length:=(aV.1 h).1
 have e:lL l=lL (l.take j)+lL (l.drop j):=by rw[←vM,List.take_append_drop]
 have hd:l.drop j=x::l.drop (j+1):=by
  obtain⟨h1,e1⟩:=aV.1 h
  rw[bY h1,e1]
 have hs:lL (l.drop j)=x.length+1+lL (l.drop (j+1)):=by rw[hd];simp[lL]
 have hjn:=zG (l.take j)
 unfold gm
 rw[bf]
 omega
def Ew (t:T):Prop:=uG t→∀ (A:Option Addr)(c:Nat)(w:World),t.kids.length≤c→fA w w.heap.size A t.kids →
 Calls Tryz.prog 87 #[t.val A c] w fun e w'=>e=.returned (.string ⟨(jr t).toArray⟩)∧Below w.heap.size w w'
theorem Lm (k:Int)(s:ByteArray)(n:Int)(l:List T)(a:Int)(hM:∀ e∈l,Ew e):Ew (.mk k s n l a):=by
 intro hp A c w hc hA
 obtain⟨_,_,_,_,_,n1,n2,hl,hk⟩:=hp
 simp only[T.val,T.k,T.s,T.n,T.kids,T.at_] at hc hA ⊢
 obtain⟨ln,rH⟩:∃ ln,ln=l.length:=⟨_,rfl⟩
 have hlen:=hA.len
 obtain⟨w1,dZ⟩:∃ w1,w1=w.alloc (.cells #[.int .i64 k,.string s,.int .i64 n,.slice A ln c,.int .i64 a] 86):=⟨_,rfl⟩
 have hb1:Below w.heap.size w w1:=by rw[dZ];exact (aG _ _).alloc (aF _) _
 have hs1:w.heap.size<w1.heap.size:=by rw[dZ];simp
 have hx1:w1.heap[w.heap.size]?=some (.cells #[.int .i64 k,.string s,.int .i64 n,.slice A ln c,.int .i64 a] 86 (0,0)):=by rw[dZ];exact aH w _
 obtain⟨⟨k0,k1,k2,k3,k4⟩,_,_,_,_,_⟩:=dN hx1
 obtain⟨pr,hpr⟩:∃ pr,pr=jr (.mk k s n l a):=⟨_,rfl⟩
 rw[←hpr,←rH]
 have D6:=ae hpr
 have HW1:=ae dZ
 have HB1:=ae hb1
 have jJ:=ae hx1
 have HK:=ae hA
 have HM:=ae hM
 have kC:=ae rH
 clear hpr dZ hb1 hx1 hA hM rH
 by_cases h1:k=1
 ·subst h1
  obtain⟨Aw,hlj⟩:=hl rfl
  have Nu:=ae (hk rfl)
  have Yh:Hid (lL (kX l)≤100000000000001):=ae (by have:=join_eq (kX l);omega)
  have agU:ln≤600:=by have:=kC.o;omega
  obtain⟨L,hL⟩:∃ L,L=kX l:=⟨_,rfl⟩
  have HL:=ae hL
  have HPX:Hid (pr=gm L ln++[41]):=ae (by
   rw[D6.o,jr,if_pos rfl,←hL]
   unfold gm
   rw[bJ (by rw[hL,nV,kC.o];exact aF _)]
   rfl)
  rw[←hL] at Yh
  clear hk hl hlj Aw hL
  go_enter Tryz.func87,Tryz.ntmps87
  go_upto_region 1 with (fail)
  rw[←HW1.o]
  go_wp2_with fail
  go_loopw [3,4] (fun v i wr=>∃ j:Nat,j≤ln∧i=.int .i64 j∧v=.string ⟨(gm L j).toArray⟩∧Below w1.heap.size w1 wr) (fun _ i _=>ln-(intOf i).toNat)
  case atStart=>exact⟨0,aX _,rfl,by rw[Ik],aG _ _⟩
  case round =>
   obtain⟨j,hj,rfl,rfl,hb⟩:=hrel
   have HB:=ae hb
   have hs:=hb.size
   have gZ:=ae (HB1.o.trans (hb.mono (bV hs1)))
   have hxw:=ae ((hb.block w.heap.size hs1).trans jJ.o)
   clear hb k0 k1 k2 k3 k4
   obtain⟨⟨k0,k1,k2,k3,k4⟩,_,_,_,_,_⟩:=dN hxw.o
   by_cases hlt:j<ln
   ·obtain⟨x,hx⟩:∃ x,l[j]?=some x:=⟨_,aO (by rw[←kC.o];exact hlt)⟩
    obtain⟨b,o,A2,c2,rfl,hbl,m1,m2,m3,m4,m5,hcx,hKx⟩:=HK.o.gy wr gZ.o j x hx
    have hpx:L[j]?=some (jr x):=by rw[HL.o,kL,bP,hx];rfl
    have hcl:=ae (HM.o x (aN hx) (Nu.o x (aN hx)) A2 c2 wr hcx hKx)
    have hsg:=Qw hpx
    have hsm:=Yh.o
    obtain⟨pt,hpt⟩:∃ pt,pt=jr x:=⟨_,rfl⟩
    rw[←hpt] at hpx hcl hsg
    have ad4:=ae hpx
    clear hx hKx hcx hpt hpx
    obtain⟨xk,xs,xn,xl,xa⟩:=x
    simp only[T.val,T.k,T.s,T.n,T.kids,T.at_] at m1 m2 m3 m4 m5 hcl
    generalize xl.length=xm at *
    cases j with
    | zero =>
      have oL:Hid ((⟨(gm L 0).toArray⟩:ByteArray)++⟨pt.toArray⟩=⟨(gm L 1).toArray⟩):=ae (by rw[lC,Ll ad4.o])
      have hz:¬9223372036854775807<(⟨(gm L 0).toArray⟩:ByteArray).size+(⟨pt.toArray⟩:ByteArray).size:=by simp only[kW];omega
      rw[Nat.zero_mul,Nat.add_zero] at m1 m2 m3 m4 m5
      clear hsg hsm
      generalize (⟨(gm L 0).toArray⟩:ByteArray)=p0 at *
      generalize (⟨pt.toArray⟩:ByteArray)=xb at *
      go_wp2_with fail
      refine (hcl.o).mono ?_
      rintro e w2 ⟨rfl,hb2⟩
      have HB2:=ae (HB.o.trans (hb2.mono hs))
      clear hb2
      go_wp2_with fail
      go_roundw
      case rel=>exact⟨1,by omega,by go_num,by rw[oL.o],HB2.o⟩
      case measure=>simp[intOf];omega
    | succ j =>
      have oL:Hid (((⟨(gm L (j+1)).toArray⟩:ByteArray)++⟨#[32]⟩)++⟨pt.toArray⟩=⟨(gm L (j+1+1)).toArray⟩):=ae (by
       rw[show (⟨#[32]⟩:ByteArray)=⟨[32].toArray⟩ from rfl,lC,lC,Ba ad4.o (by omega)])
      have hz:¬9223372036854775807<((⟨(gm L (j+1)).toArray⟩:ByteArray)++⟨#[32]⟩).size+(⟨pt.toArray⟩:ByteArray).size:=by have h1:(⟨#[32]⟩:ByteArray).size=1:=rfl;simp only[bT,kW,bf,List.length_nil];omega
      have hz2:¬9223372036854775807<(⟨(gm L (j+1)).toArray⟩:ByteArray).size+(⟨#[32]⟩:ByteArray).size:=by have h1:(⟨#[32]⟩:ByteArray).size=1:=rfl;simp only[kW,bf,List.length_nil];omega
      have hj0:(0:Int)<(j:Int)+1:=by omega
      clear hsg hsm
      generalize (⟨(gm L (j+1)).toArray⟩:ByteArray)=p0 at *
      generalize (⟨pt.toArray⟩:ByteArray)=xb at *
      go_wp2_with fail
      refine (hcl.o).mono ?_
      rintro e w2 ⟨rfl,hb2⟩
      have HB2:=ae (HB.o.trans (hb2.mono hs))
      clear hb2
      go_wp2_with fail
      go_roundw
      case rel=>exact⟨j+1+1,by omega,by go_num,by rw[oL.o],HB2.o⟩
      case measure=>simp[intOf];omega
   ·obtain rfl:j=ln:=by omega
    have hlen:=Eu L j
    have hsm:=Yh.o
    have oL:Hid ((⟨(gm L j).toArray⟩:ByteArray)++⟨#[41]⟩=⟨pr.toArray⟩):=ae (by rw[show (⟨#[41]⟩:ByteArray)=⟨[41].toArray⟩ from rfl,lC,HPX.o])
    have hz2:¬9223372036854775807<(⟨(gm L j).toArray⟩:ByteArray).size+(⟨#[41]⟩:ByteArray).size:=by have h2:(⟨#[41]⟩:ByteArray).size=1:=rfl;simp only[kW,bf,List.length_nil];omega
    clear hlen hsm
    generalize (⟨(gm L j).toArray⟩:ByteArray)=p0 at *
    go_wp2_with fail
    go_ret
    exact⟨congrArg (fun x:ByteArray=>Ending.returned (Value.string x)) oL.o,gZ.o⟩
 ·have h1':(k==1)=false:=by simpa using h1
  by_cases h2:k=2
  ·subst h2
   have hq:Hid (pr=s.data.toList):=ae (by rw[D6.o,jr,if_neg (by decide),if_pos rfl])
   have hq2:Hid (s=⟨pr.toArray⟩):=ae (by rw[hq.o,ba_eq])
   clear hl hk
   go_enter Tryz.func87,Tryz.ntmps87
   go_upto_region 1 with (fail)
   rw[←HW1.o]
   go_wp2_with fail
   go_ret
   exact⟨congrArg (fun x:ByteArray=>Ending.returned (Value.string x)) hq2.o,HB1.o⟩
  ·have h2':(k==2)=false:=by simpa using h2
   by_cases h3:k=3
   ·subst h3
    have hq:Hid (pr=Lib.itoa n):=ae (by rw[D6.o,jr,if_neg (by decide),if_neg (by decide),if_pos rfl])
    have hd:=ae (Et n n1 n2 w1)
    rw[←hq.o] at hd
    clear hl hk
    go_enter Tryz.func87,Tryz.ntmps87
    go_upto_region 1 with (fail)
    rw[←HW1.o]
    go_wp2_with fail
    refine (hd.o).mono ?_
    rintro e w2 ⟨rfl,rfl⟩
    go_wp2_with fail
    go_ret
    exact⟨rfl,HB1.o⟩
   ·have h3':(k==3)=false:=by simpa using h3
    by_cases h4:k=4
    ·subst h4
     have hq:Hid (pr=uA s):=ae (by rw[D6.o,jr,if_neg (by decide),if_neg (by decide),if_neg (by decide),if_pos rfl])
     have hd:=ae (OB s w1)
     rw[←hq.o] at hd
     clear hl hk
     go_enter Tryz.func87,Tryz.ntmps87
     go_upto_region 1 with (fail)
     rw[←HW1.o]
     go_wp2_with fail
     refine (hd.o).mono ?_
     rintro e w2 ⟨rfl,hb2⟩
     have HB2:=ae (HB1.o.trans (hb2.mono HB1.o.size))
     clear hb2
     go_wp2_with fail
     go_ret
     exact⟨rfl,HB2.o⟩
    ·have h4':(k==4)=false:=by simpa using h4
     have hq:Hid (pr=[]):=ae (by rw[D6.o,jr,if_neg h1,if_neg h2,if_neg h3,if_neg h4])
     clear hl hk
     go_enter Tryz.func87,Tryz.ntmps87
     go_upto_region 1 with (fail)
     rw[←HW1.o]
     go_wp2_with fail
     go_ret
     exact⟨by rw[hq.o];rfl,HB1.o⟩
theorem Ey:∀ t,Ew t:=T.ind fun k s n l a ih=>Lm k s n l a ih
inductive TxP:P→Prop
 | mk (k:Int)(nm:ByteArray)(ex:List E)(cols left right:List ByteArray)(ag:List Ag)(kids:List P)(h1:1≤k)(h7:k≤7)(hm:∀ e∈ex,E.Fine e∧qC e)(hc:cols.length≤ex.length)(hx:k=2→ex.length=1)(hk1:k=1→kids=[])
    (hs:∀ x∈left++right,x.size≤600)(ll:left.length≤600)(lr:right.length≤600)(le:ex.length≤600)(la:ag.length≤600)(lk:kids.length≤600)(hk:∀ p∈kids,TxP p):TxP (.mk k nm ex cols left right ag kids)
def Jh (p:P):Prop:=TxP p→uG (fD p)→∀ (a:PA)(w:World),kY w (fun k=>k<w.heap.size) p a→Calls Tryz.prog 41 #[p.val a] w fun e w'=>e=.returned (.string ⟨(jr (fD p)).toArray⟩)∧Below w.heap.size w w'
theorem Qx {l:List T} (h:uG (jM l)):∀ t∈l,uG t:=by cases h with|mk _ _ _ _ _ _ _ _ hk=>exact hk rfl
theorem Yi {l:List T} (h:uG (jM l)):lL (kX l)≤100000000000001:=by
 cases h with
 | mk _ _ _ _ _ _ _ hl _ =>
   have:=join_eq (kX l)
   have:=(hl rfl).2
   omega
theorem Yj (W:List UInt8)(L:List (List UInt8)):gm (W::L) 1=40::W:=by
 unfold gm
 rw[List.take_succ_cons,List.take_zero,Lib.join_cons]
 simp[Lib.joinTail]
theorem nN {L:List (List UInt8)} {j:Nat} {x:List UInt8} (h:L[j+1]?=some x):gm L (j+1+1)=(gm L (j+1)++[32])++x:=Ba h (by omega)
theorem Vu (c:ByteArray)(e:E):jr (KO c e)=40::c.data.toList++32::jr (iy e)++[41]:=by
 unfold KO
 rw[sD]
 have p2:jr (gz c)=c.data.toList:=by unfold gz;rw[jr,if_neg (by decide),if_pos rfl]
 simp only[kX,p2,Lib.join_cons]
 simp[Lib.joinTail]
theorem Df (c:ByteArray):jr (gz c)=c.data.toList:=by unfold gz;rw[jr,if_neg (by decide),if_pos rfl]
theorem Ji (g:Ag):jr (iO (uH g))=40::g.nm.data.toList++32::g.fn.data.toList++(if g.fn.toList=ig then [] else 32::g.xH.data.toList)++[41]:=by
 unfold iO
 rw[sD]
 unfold uH
 split
 ·simp only[List.map_cons,List.map_nil,kX,Df,Lib.join_cons]
  simp[Lib.joinTail]
 ·simp only[List.map_cons,List.map_nil,kX,Df,Lib.join_cons]
  simp[Lib.joinTail]
theorem Yk {W:List UInt8} {M K:List (List UInt8)} {j:Nat} {x:List UInt8} (h:M[j]?=some x):(W::(M++K))[j+1]?=some x:=by
 rw[List.getElem?_cons_succ,List.getElem?_append_left (aV.1 h).1]
 exact h
theorem Yl {W:List UInt8} {M K:List (List UInt8)} {m j:Nat} {x:List UInt8} (hm:M.length=m)(h:K[j]?=some x):(W::(M++K))[m+j+1]?=some x:=by
 rw[List.getElem?_cons_succ,bK (by omega),show m+j-M.length=j by omega]
 exact h
theorem Lp {w:World} {S:Nat→Prop} {A:Option Addr} {l:List Ag} (h:Lies w S A (jd l)) {j:Nat} {g:Ag} (hg:l[j]?=some g):∃ b o,A=some ⟨b,o,none⟩∧S b∧w.cell? ⟨b,o+j*3,none⟩=some (.string g.nm)∧w.cell? ⟨b,o+j*3+1,none⟩=some (.string g.fn)∧w.cell? ⟨b,o+j*3+2,none⟩=some (.string g.xH):=by
 have key:∀ (l:List Ag)(j:Nat),l[j]?=some g→(jd l)[j*3]?=some (.string g.nm)∧(jd l)[j*3+1]?=some (.string g.fn)∧(jd l)[j*3+2]?=some (.string g.xH):=by
  intro l
  induction l with
  | nil=>intro j h;simp at h
  | cons x l ih =>
    intro j h
    have e:jd (x::l)=Ag.cs x++jd l:=rfl
    have hl:(Ag.cs x).length=3:=rfl
    cases j with
    | zero=>obtain rfl:x=g:=by simpa using h
            exact⟨rfl,rfl,rfl⟩
    | succ j =>
      obtain⟨h1,h2,h3⟩:=ih j (by simpa using h)
      rw[e,bK (by omega),bK (by omega),bK (by omega),hl]
      rw[show (j+1)*3-3=j*3 by omega,show (j+1)*3+1-3=j*3+1 by omega,show (j+1)*3+2-3=j*3+2 by omega]
      exact⟨h1,h2,h3⟩
 obtain⟨h1,h2,h3⟩:=key l j hg
 rcases h with h|⟨b,o,hA,hb,hc⟩
 ·rw[h] at h1;simp at h1
 ·exact⟨b,o,hA,hb,hc _ _ h1,hc _ _ h2,hc _ _ h3⟩
theorem OH (k:Int)(nm:ByteArray)(ex:List E)(cols left right:List ByteArray)(ag:List Ag)(kids:List P)(hM:∀ p∈kids,Jh p):Jh (.mk k nm ex cols left right ag kids):=by
 intro hp Gm a w hA
 obtain⟨_,_,_,_,_,_,_,_,h1,h7,hm,hc,hx,hk1,hs,ll,lr,le,la,lk,hk⟩:=hp
 have htr:fD (.mk k nm ex cols left right ag kids)=jM (gz ⟨(qW k).toArray⟩::(mF k nm ex cols left right ag++kK kids)):=by rw[fD,if_neg (by omega)]
 rw[htr] at Gm ⊢
 have hpk:=Qx Gm
 have hsm:=Yi Gm
 obtain⟨W,hW⟩:∃ W,W=qW k:=⟨_,rfl⟩
 obtain⟨M,hMd⟩:∃ M,M=kX (mF k nm ex cols left right ag):=⟨_,rfl⟩
 obtain⟨KK,hKK⟩:∃ KK,KK=kX (kK kids):=⟨_,rfl⟩
 obtain⟨L,hL⟩:∃ L,L=W::(M++KK):=⟨_,rfl⟩
 have hpL:kX (gz ⟨(qW k).toArray⟩::(mF k nm ex cols left right ag++kK kids))=L:=by
  rw[hL,hMd,hKK,hW,kX,kL,kL,kL,List.map_append,Df]
 rw[hpL] at hsm
 have hpr:jr (jM (gz ⟨(qW k).toArray⟩::(mF k nm ex cols left right ag++kK kids)))=gm L L.length++[41]:=by
  rw[sD,hpL]
  unfold gm
  rw[List.take_length]
  rfl
 rw[hpr]
 have ZQ:Hid (∀ j x,L[j]?=some x→(gm L j).length+x.length≤100000000000002):=ae (fun j x h=>by have:=Qw h;omega)
 have HSL:Hid (∀ j,(gm L j).length≤100000000000002):=ae (fun j=>by have:=Eu L j;omega)
 have Nl:Hid (L.length=1+M.length+kids.length):=ae (by rw[hL,hKK,bf,aZ,nV,tJ,bM];omega)
 have HKP:Hid (∀ (j:Nat)(q:P),kids[j]?=some q→L[M.length+j+1]?=some (jr (fD q))∧uG (fD q)):=ae (fun j q hq=>by
  refine⟨?_,hpk _ (bG _ (List.mem_append_right _ ?_))⟩
  ·rw[hL]
   refine Yl rfl ?_
   rw[hKK,kL,tJ,List.map_map,bP,hq]
   rfl
  ·rw[tJ]
   exact List.mem_map.2 ⟨q,aN hq,rfl⟩)
 have HMP:Hid (∀ t∈mF k nm ex cols left right ag,uG t):=ae (fun t ht=>hpk t (bG _ (List.mem_append_left _ ht)))
 have Ov:Hid (∀ (j:Nat)(t:T),(mF k nm ex cols left right ag)[j]?=some t→L[j+1]?=some (jr t)):=ae (fun j t ht=>by
  rw[hL]
  refine Yk ?_
  rw[hMd,kL,bP,ht]
  rfl)
 have Hw:Hid (gm L 1=40::qW k):=ae (by rw[hL,Yj,hW])
 have Ei:Hid (M.length=(mF k nm ex cols left right ag).length):=ae (by rw[hMd,nV])
 obtain⟨⟨pe,pc,pl,pr',pg,l1,l2,l3,l4,l5⟩,pk⟩:=hA
 simp only[P.val,P.k,P.nm,P.ex,P.cols,P.left,P.right,P.ag,P.kids] at pe pc pl pr' pg pk l1 l2 l3 l4 l5 ⊢
 obtain⟨ea,ec,ca,cc,la',lc,ra,rc,ga,gc,ka,kc⟩:=a
 simp only at pe pc pl pr' pg pk ⊢
 obtain⟨w1,dZ⟩:∃ w1,w1=w.alloc (.cells #[.int .i64 k,.string nm,.slice ea ex.length ec,.slice ca cols.length cc,.slice la' left.length lc,.slice ra right.length rc,.slice ga ag.length gc,.slice ka kids.length kc] 27):=⟨_,rfl⟩
 have hb1:Below w.heap.size w w1:=by rw[dZ];exact (aG _ _).alloc (aF _) _
 have hs1:w.heap.size<w1.heap.size:=by rw[dZ];simp
 have jJ:Hid (w1.heap[w.heap.size]?=some (.cells #[.int .i64 k,.string nm,.slice ea ex.length ec,.slice ca cols.length cc,.slice la' left.length lc,.slice ra right.length rc,.slice ga ag.length gc,.slice ka kids.length kc] 27 (0,0))):=ae (by rw[dZ];exact aH w _)
 have HW1:=ae dZ
 have HB1:=ae hb1
 have Qi:=ae pe
 have HPC:=ae pc
 have lV:=ae pl
 have D6:=ae pr'
 have HPG:=ae pg
 have FQ:=ae pk
 have HM:=ae hM
 have HME:=ae hm
 have Xm:=ae hk
 have HSZ:=ae hs
 clear Gm htr hpk hsm hW hMd hKK hL hpL hpr pe pc pl pr' pg pk dZ hb1 hM hm hk hs
 generalize hl1:ex.length=m1 at *
 generalize hl2:cols.length=m2 at *
 generalize hl3:left.length=m3 at *
 generalize hl4:right.length=m4 at *
 generalize hl5:ag.length=m5 at *
 generalize Aw:kids.length=m6 at *
 have HL1:=ae hl1
 have HL2:=ae hl2
 have Nr:=ae hl3
 have P6:=ae hl4
 have Ud:=ae hl5
 have HL6:=ae Aw
 clear hl1 hl2 hl3 hl4 hl5 Aw
 obtain⟨d0,d1,d2,d3,d4,d5,d6,d7,f0,f1,f2,f3,f4,f5,f6,f7⟩:=dO jJ.o
 go_enter Tryz.func41,Tryz.ntmps41
 go_upto_region 1 with (fail)
 rw[←HW1.o]
 go_upto_block 0 with (fail)
 clear d0 d1 d2 d3 d4 d5 d6 d7 f0 f1 f2 f3 f4 f5 f6 f7
 go_cut [3] (fun s3 wx=>s3=.string ⟨(gm L (M.length+1)).toArray⟩∧Below w1.heap.size w1 wx)
 case first =>
  have hkc:k=1∨k=2∨k=3∨k=4∨k=5∨k=6∨k=7:=by omega
  obtain⟨d0,d1,d2,d3,d4,d5,d6,d7,f0,f1,f2,f3,f4,f5,f6,f7⟩:=dO jJ.o
  rcases hkc with rfl|rfl|rfl|rfl|rfl|rfl|rfl
  ·have hz1:=Ov.o 0 (gz nm) rfl
   rw[Df] at hz1
   have hsg:=ZQ.o 1 _ hz1
   have hnz:nm.size=nm.data.toList.length:=by rw[Array.length_toList];rfl
   have hkn:m6=0:=by rw[←HL6.o,hk1 rfl];rfl
   have oL:Hid (((⟨#[40,116,97,98,108,101,32]⟩:ByteArray)++nm)++(⟨#[41]⟩:ByteArray)=⟨(gm L L.length++[41]).toArray⟩):=ae (by
    have e:L.length=0+1+1:=by rw[Nl.o,Ei.o,hkn];rfl
    rw[e,nN hz1,Hw.o]
    apply ByteArray.ext
    simp[ByteArray.data_append,qW,mi])
   have hz2:¬9223372036854775807<((⟨#[40,116,97,98,108,101,32]⟩:ByteArray)).size+nm.size:=by have h7:((⟨#[40,116,97,98,108,101,32]⟩:ByteArray)).size=7:=rfl;rw[h7,hnz];omega
   have hz3:¬9223372036854775807<((⟨#[40,116,97,98,108,101,32]⟩:ByteArray)++nm).size+(⟨#[41]⟩:ByteArray).size:=by have h7:((⟨#[40,116,97,98,108,101,32]⟩:ByteArray)).size=7:=rfl;have h8:(⟨#[41]⟩:ByteArray).size=1:=rfl;rw[bT,h7,h8,hnz];omega
   clear hz1 hsg hkn hnz
   go_wp2_with fail
   go_ret
   exact⟨congrArg (fun x:ByteArray=>Ending.returned (Value.string x)) oL.o,HB1.o⟩
  ·obtain⟨e,he⟩:∃ e,ex=[e]:=by
    have h:=HL1.o
    rw[hx rfl] at h
    match ex,h with
    | [e],_=>exact⟨e,rfl⟩
   subst he
   obtain rfl:m1=1:=HL1.o.symm
   have hmd:mF 2 nm [e] cols left right ag=[iy e]:=rfl
   have hz1:=Ov.o 0 (iy e) rfl
   have Gm:=HMP.o (iy e) (by rw[hmd];simp)
   have hm1:M.length=1:=by rw[Ei.o,hmd];rfl
   obtain⟨oZ,jY⟩:=HME.o e (by simp)
   have hsg:=ZQ.o 1 _ hz1
   obtain⟨b,o,A2,c2,hea,hbS,z0,z1,z2,z3,hKx⟩:=((Qi.o.to (B:=w.heap.size) (fun k hk=>hk))).gy w1 HB1.o 0 e rfl
   subst hea
   rw[Nat.zero_mul,Nat.add_zero] at z0 z1 z2 z3
   have hT:=ae (Hg e oZ jY A2 c2 w1 hKx)
   have hP:=ae (fun A' c' w' h1 h2=>Ey (iy e) Gm A' c' w' h1 h2)
   obtain⟨pt,hpt⟩:∃ pt,pt=jr (iy e):=⟨_,rfl⟩
   rw[←hpt] at hz1 hP hsg
   have oL:Hid (((⟨#[40,102,105,108,116,101,114]⟩:ByteArray)++(⟨#[32]⟩:ByteArray))++⟨pt.toArray⟩=⟨(gm L (M.length+1)).toArray⟩):=ae (by
    rw[hm1,nN hz1,Hw.o,show (⟨#[32]⟩:ByteArray)=⟨[32].toArray⟩ from rfl,show (⟨#[40,102,105,108,116,101,114]⟩:ByteArray)=⟨(40::qW 2).toArray⟩ from rfl,lC,lC])
   have hz2:¬9223372036854775807<((⟨#[40,102,105,108,116,101,114]⟩:ByteArray)++(⟨#[32]⟩:ByteArray)).size+(⟨pt.toArray⟩:ByteArray).size:=by
    have h8:((⟨#[40,102,105,108,116,101,114]⟩:ByteArray)++(⟨#[32]⟩:ByteArray)).size=8:=by rw[bT];rfl
    rw[h8,kW];omega
   obtain⟨ek,es,en,el⟩:=e
   generalize htE:iy (.mk ek es en el)=tE at *
   obtain⟨tk,ts,tn,tl,ta⟩:=tE
   simp only[E.val,E.k,E.s,E.n,E.kids,T.val,T.k,T.s,T.n,T.kids,T.at_] at z0 z1 z2 z3 hT hP
   clear hz1 hsg hpt Gm hmd hKx htE oZ jY
   generalize el.length=em at *
   generalize (⟨pt.toArray⟩:ByteArray)=xb at *
   go_wp2_with fail
   refine (hT.o).mono ?_
   rintro e w2 ⟨⟨A3,c3,rfl,hc3,hX3⟩,hb2⟩
   have HB2:=ae hb2
   have HPC:=ae (hP.o A3 c3 w2 hc3 (hX3.to fun k hk=>hk.2))
   clear hb2 hX3
   go_wp2_with fail
   refine (HPC.o).mono ?_
   rintro e w3 ⟨rfl,hb3⟩
   have HB3:=ae (HB2.o.trans (hb3.mono HB2.o.size))
   clear hb3
   go_wp2_with fail
   go_meet
   case rel=>exact⟨congrArg Value.string oL.o,HB3.o⟩
  ·have hmd:mF 3 nm ex cols left right ag=rZ cols ex:=rfl
   have hm1:M.length=m2:=by rw[Ei.o,hmd,zy (by rw[HL1.o,HL2.o];exact hc),HL2.o]
   have HGZ:Hid (∀ (j:Nat)(c:ByteArray)(e:E),cols[j]?=some c→ex[j]?=some e→L[j+1]?=some (jr (KO c e))∧uG (iy e)):=ae (fun j c e hc' he=>by
    have hg:(mF 3 nm ex cols left right ag)[j]?=some (KO c e):=by
     rw[hmd]
     unfold rZ
     rw[List.getElem?_zipWith,hc',he]
    exact⟨Ov.o j _ hg,Qx (HMP.o _ (aN hg)) _ (by simp)⟩)
   have HHM:=ae hm1
   have ahz:Hid ((⟨#[40,112,114,111,106,101,99,116]⟩:ByteArray)=⟨(gm L (0+1)).toArray⟩):=ae (by rw[Hw.o];rfl)
   have HEK:=ae (Qi.o.to (B:=w.heap.size) (fun k hk=>hk))
   clear hmd hm1
   have hlc:Hid (m2≤m1):=ae hc
   go_upto_region 12 with (fail)
   clear d0 d1 d2 d3 d4 d5 d6 d7 f0 f1 f2 f3 f4 f5 f6 f7
   go_wp2_with fail
   go_loopw [3,4] (fun s i wr=>∃ j:Nat,j≤m2∧i=.int .i64 j∧s=.string ⟨(gm L (j+1)).toArray⟩∧Below w1.heap.size w1 wr) (fun _ i _=>m2-(intOf i).toNat)
   case atStart=>exact⟨0,aX _,rfl,by rw[←ahz.o],aG _ _⟩
   case round =>
    obtain⟨j,hj,rfl,rfl,hb⟩:=hrel
    have HB:=ae hb
    have hs:=hb.size
    have gZ:=ae (HB1.o.trans (hb.mono (bV hs1)))
    have HXW:=ae ((hb.block w.heap.size hs1).trans jJ.o)
    clear hb
    obtain⟨d0,d1,d2,d3,d4,d5,d6,d7,f0,f1,f2,f3,f4,f5,f6,f7⟩:=dO HXW.o
    by_cases hlt:j<m2
    ·have hlt1:j<m1:=aK hlt hlc.o
     have hjm:(j:Int)<(m1:Int):=by omega
     obtain⟨cb,hcb⟩:∃ cb,cols[j]?=some cb:=⟨_,aO (by rw[HL2.o];exact hlt)⟩
     obtain⟨e,he⟩:∃ e,ex[j]?=some e:=⟨_,aO (by rw[HL1.o];exact hlt1)⟩
     obtain⟨hgt,Gm⟩:=HGZ.o j cb e hcb he
     obtain⟨bc,oc,rfl,ad5,ad6⟩:∃ bc oc,ca=some ⟨bc,oc,none⟩∧bc<w.heap.size∧w.cell? ⟨bc,oc+j,none⟩=some (.string cb):=by
      have hcell:(strs cols)[j]?=some (.string cb):=by unfold strs;rw[bP,hcb];rfl
      rcases HPC.o with h0|⟨b,o,hA,hb,hcx⟩
      ·rw[h0] at hcell;simp at hcell
      ·exact⟨b,o,hA,hb,hcx j _ hcell⟩
     obtain⟨be,oe,A2,c2,rfl,ad7,z0,z1,z2,z3,hKx⟩:=HEK.o.gy wr gZ.o j e he
     have Ym:be<wr.heap.size:=aK ad7 gZ.o.size
     obtain⟨oZ,jY⟩:=HME.o e (aN he)
     have hsg:=ZQ.o _ _ hgt
     have hcc:=ae ((gZ.o.cell ad5).trans ad6)
     have ahA:bc<wr.heap.size:=aK ad5 gZ.o.size
     have ad8:w.heap.size<wr.heap.size:=aK hs1 hs
     have HT:=ae (fun w' (hb:Below wr.heap.size wr w')=>Hg e oZ jY A2 c2 w' ((hKx.low hb).more hb.size))
     have HP:=ae (fun A' c' w' h1 h2=>Ey (iy e) Gm A' c' w' h1 h2)
     obtain⟨pt,hpt⟩:∃ pt,pt=jr (iy e):=⟨_,rfl⟩
     obtain⟨pb,hpb⟩:∃ pb:ByteArray,pb=⟨pt.toArray⟩:=⟨_,rfl⟩
     rw[←hpt,←hpb] at HP
     have HEC:=ae (bU z0 (bU z1 (bU z2 z3)))
     obtain⟨p0,hp0⟩:∃ p0:ByteArray,p0=⟨(gm L (j+1)).toArray⟩:=⟨_,rfl⟩
     rw[←hp0]
     have hps:p0.size=(gm L (j+1)).length:=by rw[hp0];rfl
     have hpz:pb.size=pt.length:=by rw[hpb];rfl
     have oL:Hid ((((((p0++(⟨#[32,40]⟩:ByteArray))++cb)++(⟨#[32]⟩:ByteArray))++pb)++(⟨#[41]⟩:ByteArray))=⟨(gm L (j+1+1)).toArray⟩):=ae (by
      rw[nN hgt,Vu,hp0,hpb,hpt]
      apply ByteArray.ext
      simp[ByteArray.data_append])
     have hsz:p0.size+cb.size+pb.size≤400000000000000:=by
      rw[Vu,←hpt] at hsg
      simp only[bf,aZ,List.length_nil,Array.length_toList] at hsg
      have e1:cb.size=cb.data.size:=rfl
      omega
     have e41:(⟨#[41]⟩:ByteArray).size=1:=rfl
     have e32:(⟨#[32]⟩:ByteArray).size=1:=rfl
     have e34:(⟨#[32,40]⟩:ByteArray).size=2:=rfl
     have hy0:¬9223372036854775807<(p0).size+((⟨#[32,40]⟩:ByteArray)).size:=by (try simp only[bT]);omega
     have hy1:¬9223372036854775807<((p0++(⟨#[32,40]⟩:ByteArray))).size+(cb).size:=by (try simp only[bT]);omega
     have hy2:¬9223372036854775807<(((p0++(⟨#[32,40]⟩:ByteArray))++cb)).size+((⟨#[32]⟩:ByteArray)).size:=by (try simp only[bT]);omega
     have hy3:¬9223372036854775807<((((p0++(⟨#[32,40]⟩:ByteArray))++cb)++(⟨#[32]⟩:ByteArray))).size+(pb).size:=by (try simp only[bT]);omega
     have hy4:¬9223372036854775807<(((((p0++(⟨#[32,40]⟩:ByteArray))++cb)++(⟨#[32]⟩:ByteArray))++pb)).size+((⟨#[41]⟩:ByteArray)).size:=by (try simp only[bT]);omega
     have hn1:p0.size≤9223372036854775805:=by omega
     have hn2:p0.size+2+cb.size≤9223372036854775807:=by omega
     have hn3:p0.size+2+cb.size≤9223372036854775806:=by omega
     have hn4:p0.size+2+cb.size+1+pb.size≤9223372036854775807:=by omega
     have Yn:p0.size+2+cb.size+1+pb.size≤9223372036854775806:=by omega
     obtain⟨ek,es,en,el⟩:=e
     generalize htE:iy (.mk ek es en el)=tE at *
     obtain⟨tk',ts,tn,tl,ta⟩:=tE
     simp only[E.val,E.k,E.s,E.n,E.kids,T.val,T.k,T.s,T.n,T.kids,T.at_] at z0 z1 z2 z3 HT HP HEC
     generalize el.length=em at *
     clear hgt Gm hcb he oZ jY hsg hpt hpb hp0 hps hpz hsz hKx ad6 htE z0 z1 z2 z3 e41 e32 e34
     go_upto_region 15 with (fail)
     clear d0 d1 d2 d3 d4 d5 d6 d7 f0 f1 f2 f3 f4 f5 f6 f7
     refine wp_region_held_drew (S:=fun w'=>Below wr.heap.size wr w') (by kernel_rfl) ((aG _ _).drew) (fun hHeld=>?_)
     refine aC (i:=0) (v:=.string p0) rfl (by kernel_rfl) aA (bD ⟨by rfl,fun _ _=>by go_simp⟩) ‹_› ?_
     simp only[ah,ai,Act.put,au,ay,az]
     refine aC (i:=1) (v:=.string (p0++⟨#[32,40]⟩)) rfl (by kernel_rfl) aA (bD ⟨by rfl,fun _ _=>by go_simp⟩) ‹_› ?_
     simp only[ah,aj,ai,Act.put,au,ay,az]
     refine aC (i:=2) (v:=.pointer (some ⟨w.heap.size,3,none⟩)) rfl (by kernel_rfl) aA (bD ⟨by rfl,fun _ _=>by go_simp⟩) ‹_› ?_
     simp only[ah,aj,ai,Act.put,au,ay,az]
     refine aC (i:=3) (v:=.slice (some ⟨bc,oc,none⟩) m2 cc) rfl (by kernel_rfl) aA (bD ⟨by rfl,fun w1' hSw=>by (obtain⟨d0,d1,d2,d3,d4,d5,d6,d7,_,_,_,_,_,_,_,_⟩:=dO ((hSw.block _ ad8).trans HXW.o);go_simp)⟩) ‹_› ?_
     simp only[ah,aj,ai,Act.put,au,ay,az]
     refine aC (i:=4) (v:=.int .i64 j) rfl (by kernel_rfl) aA (bD ⟨by rfl,fun _ _=>by go_simp⟩) ‹_› ?_
     simp only[ah,aj,ai,Act.put,au,ay,az]
     refine aC (i:=5) (v:=.pointer (some ⟨bc,oc+j,none⟩)) rfl (by kernel_rfl) aA (bD ⟨by rfl,fun _ _=>by go_simp⟩) ‹_› ?_
     simp only[ah,aj,ai,Act.put,au,ay,az]
     refine aC (i:=6) (v:=.string cb) rfl (by kernel_rfl) aA (bD ⟨by rfl,fun w1' hSw=>by (have y0:=(hSw.cell ahA).trans hcc.o;go_simp)⟩) ‹_› ?_
     simp only[ah,aj,ai,Act.put,au,ay,az]
     refine aC (i:=7) (v:=.string (p0++⟨#[32,40]⟩++cb)) rfl (by kernel_rfl) aA (bD ⟨by rfl,fun _ _=>by go_simp⟩) ‹_› ?_
     simp only[ah,aj,ai,Act.put,au,ay,az]
     refine aC (i:=8) (v:=.string (p0++⟨#[32,40]⟩++cb++⟨#[32]⟩)) rfl (by kernel_rfl) aA (bD ⟨by rfl,fun _ _=>by go_simp⟩) ‹_› ?_
     simp only[ah,aj,ai,Act.put,au,ay,az]
     refine aC (i:=9) (v:=.pointer (some ⟨w.heap.size,2,none⟩)) rfl (by kernel_rfl) aA (bD ⟨by rfl,fun _ _=>by go_simp⟩) ‹_› ?_
     simp only[ah,aj,ai,Act.put,au,ay,az]
     refine aC (i:=10) (v:=.slice (some ⟨be,oe,none⟩) m1 ec) rfl (by kernel_rfl) aA (bD ⟨by rfl,fun w1' hSw=>by (obtain⟨d0,d1,d2,d3,d4,d5,d6,d7,_,_,_,_,_,_,_,_⟩:=dO ((hSw.block _ ad8).trans HXW.o);go_simp)⟩) ‹_› ?_
     simp only[ah,aj,ai,Act.put,au,ay,az]
     refine aC (i:=11) (v:=.int .i64 j) rfl (by kernel_rfl) aA (bD ⟨by rfl,fun _ _=>by go_simp⟩) ‹_› ?_
     simp only[ah,aj,ai,Act.put,au,ay,az]
     refine aC (i:=12) (v:=.pointer (some ⟨be,oe+j*4,none⟩)) rfl (by kernel_rfl) aA (bD ⟨by rfl,fun _ _=>by go_simp⟩) ‹_› ?_
     simp only[ah,aj,ai,Act.put,au,ay,az]
     refine aC (i:=13) (v:=.agg #[.int .i64 ek,.string es,.int .i64 en,.slice A2 em c2]) rfl (by kernel_rfl) aA (bD ⟨by rfl,fun w1' hSw=>by (have y0:=(hSw.cell Ym).trans HEC.o.1;have y1:=(hSw.cell Ym).trans HEC.o.2.1;have y2:=(hSw.cell Ym).trans HEC.o.2.2.1;have y3:=(hSw.cell Ym).trans HEC.o.2.2.2;go_simp)⟩) ‹_› ?_
     simp only[ah,aj,ai,Act.put,au,ay,az]
     refine wpAnyH_ready (rs:=[14]) (by kernel_rfl) (by simp) ?_
     refine AllReadyH.cons rfl (fun K hK=>?_) AllReadyH.nil
     simp only[ah,aj,ai]
     go_simp
     refine (HT.o _ hHeld).mono ?_
     rintro r wb ⟨⟨Ao,co,rfl,hco,hXo⟩,hb⟩
     have hH:Below wr.heap.size wr _:=hHeld
     have hHb:Below wr.heap.size wr wb:=hH.trans (hb.mono hH.size)
     have HQ:=ae (HP.o Ao co wb hco (hXo.to fun k hk=>hk.2))
     clear hXo hH hb
     go_wp2_with fail
     refine hK.o _ _ hHb (fun hHeld=>?_)
     clear hK K hHb
     refine wpAnyH_ready (rs:=[15]) (by kernel_rfl) (by simp) ?_
     refine AllReadyH.cons rfl (fun K hK=>?_) AllReadyH.nil
     simp only[ah,aj,ai]
     go_simp
     refine (HQ.o).mono ?_
     rintro r wc ⟨rfl,hb⟩
     have hH:Below wr.heap.size wr _:=hHeld
     have hHb:Below wr.heap.size wr wc:=hH.trans (hb.mono hH.size)
     clear hH hb
     go_wp2_with fail
     refine hK.o _ _ hHb (fun hHeld=>?_)
     clear hK K hHb
     refine aC (i:=16) (v:=.string (p0++⟨#[32,40]⟩++cb++⟨#[32]⟩++pb)) rfl (by kernel_rfl) aA (bD ⟨by rfl,fun _ _=>by go_simp⟩) ‹_› ?_
     simp only[ah,aj,ai,Act.put,au,ay,az]
     refine aC (i:=17) (v:=.string (p0++⟨#[32,40]⟩++cb++⟨#[32]⟩++pb++⟨#[41]⟩)) rfl (by kernel_rfl) aA (bD ⟨by rfl,fun _ _=>by go_simp⟩) ‹_› ?_
     simp only[ah,aj,ai,Act.put,au,ay,az]
     refine aC (i:=18) (v:=.string (p0++⟨#[32,40]⟩++cb++⟨#[32]⟩++pb++⟨#[41]⟩)) rfl (by kernel_rfl) aA (bD ⟨by rfl,fun _ _=>by go_simp⟩) ‹_› ?_
     simp only[ah,aj,ai,Act.put,au,ay,az]
     refine wpAnyH_done (by kernel_rfl) ?_ _
     have IY:Hid (Below wr.heap.size wr _):=ae hHeld
     clear hHeld
     go_wp2_with fail
     go_roundw
     case rel=>exact⟨j+1,by omega,by go_num,by rw[oL.o],HB.o.trans (IY.o.mono hs)⟩
     case measure=>simp[intOf];omega
    ·obtain rfl:j=m2:=by omega
     have hlen:Hid (gm L (M.length+1)=gm L (j+1)):=ae (by rw[HHM.o])
     go_wp2_with fail
     go_meet
     case rel=>exact⟨by rw[hlen.o],HB.o⟩
  ·have hmd:mF 4 nm ex cols left right ag=[iO left,iO right]:=rfl
   have hz1:=Ov.o 0 (iO left) rfl
   have hz2:=Ov.o 1 (iO right) rfl
   have hm1:M.length=2:=by rw[Ei.o,hmd];rfl
   have Vw:=ZQ.o _ _ hz1
   have aeb:=ZQ.o _ _ hz2
   have Jj:=ae (fun w' (hb:Below w1.heap.size w1 w')=>vO left (by rw[Nr.o];exact ll) (fun x hx=>HSZ.o x (List.mem_append_left _ hx)) la' lc w' ((lV.o.kept (w':=w') fun k hk=>(hb.block k (aK hk HB1.o.size)).trans (HB1.o.block k hk)).mono fun k hk=>aK hk (aS HB1.o.size hb.size)))
   have Yo:=ae (fun w' (hb:Below w1.heap.size w1 w')=>vO right (by rw[P6.o];exact lr) (fun x hx=>HSZ.o x (List.mem_append_right _ hx)) ra rc w' ((D6.o.kept (w':=w') fun k hk=>(hb.block k (aK hk HB1.o.size)).trans (HB1.o.block k hk)).mono fun k hk=>aK hk (aS HB1.o.size hb.size)))
   rw[Nr.o] at Jj
   rw[P6.o] at Yo
   obtain⟨x1,hx1⟩:∃ x1,x1=jr (iO left):=⟨_,rfl⟩
   obtain⟨x2,hx2⟩:∃ x2,x2=jr (iO right):=⟨_,rfl⟩
   rw[←hx1] at hz1 Vw Jj
   rw[←hx2] at hz2 aeb Yo
   obtain⟨P0,hP0⟩:∃ P0:ByteArray,P0=(⟨#[40,106,111,105,110,32]⟩:ByteArray):=⟨_,rfl⟩
   obtain⟨X1,hX1⟩:∃ X1:ByteArray,X1=⟨x1.toArray⟩:=⟨_,rfl⟩
   obtain⟨X2,hX2⟩:∃ X2:ByteArray,X2=⟨x2.toArray⟩:=⟨_,rfl⟩
   have oL:Hid (P0++X1++(⟨#[32]⟩:ByteArray)++X2=⟨(gm L (M.length+1)).toArray⟩):=ae (by
    have e2:gm L (0+1+1)=_:=nN hz1
    rw[hm1,nN hz2,e2,Hw.o,hP0,hX1,hX2,show (⟨#[32]⟩:ByteArray)=⟨[32].toArray⟩ from rfl,show (⟨#[40,106,111,105,110,32]⟩:ByteArray)=⟨(40::qW 4++[32]).toArray⟩ from rfl,lC,lC,lC])
   have s0:P0.size=6:=by rw[hP0];rfl
   have s1:X1.size=x1.length:=by rw[hX1];rfl
   have s2:X2.size=x2.length:=by rw[hX2];rfl
   have s3:(⟨#[32]⟩:ByteArray).size=1:=rfl
   have hy1:¬9223372036854775807<P0.size+X1.size:=by rw[s0,s1];omega
   have hy2:¬9223372036854775807<(P0++X1).size+(⟨#[32]⟩:ByteArray).size:=by rw[bT,s0,s1,s3];omega
   have hy3:¬9223372036854775807<(P0++X1++(⟨#[32]⟩:ByteArray)).size+X2.size:=by rw[bT,bT,s0,s1,s2,s3];omega
   have hy4:P0.size+X1.size≤9223372036854775806:=by rw[s0,s1];omega
   have hy5:P0.size+X1.size+1+X2.size≤9223372036854775807:=by rw[s0,s1,s2];omega
   rw[←hX1] at Jj
   rw[←hX2] at Yo
   clear hz1 hz2 Vw aeb hmd hx1 hx2 hX1 hX2 s0 s1 s2 s3
   clear d0 d1 d2 d3 d4 d5 d6 d7 f0 f1 f2 f3 f4 f5 f6 f7
   go_upto_region 17 with (fail)
   rw[←hP0]
   clear hP0
   refine wp_region_held_drew (S:=fun w'=>Below w1.heap.size w1 w') (by kernel_rfl) ((aG _ _).drew) (fun hHeld=>?_)
   refine aC (i:=0) (v:=.pointer (some ⟨w.heap.size,4,none⟩)) rfl (by kernel_rfl) aA (bD ⟨by rfl,fun _ _=>by go_simp⟩) ‹_› ?_
   simp only[ah,ai,Act.put,au,ay,az]
   refine aC (i:=1) (v:=.slice la' m3 lc) rfl (by kernel_rfl) aA (bD ⟨by rfl,fun w1' hSw=>by (obtain⟨d0,d1,d2,d3,d4,d5,d6,d7,_,_,_,_,_,_,_,_⟩:=dO ((hSw.block _ hs1).trans jJ.o);go_simp)⟩) ‹_› ?_
   simp only[ah,aj,ai,Act.put,au,ay,az]
   refine aC (i:=5) (v:=.pointer (some ⟨w.heap.size,5,none⟩)) rfl (by kernel_rfl) aA (bD ⟨by rfl,fun _ _=>by go_simp⟩) ‹_› ?_
   simp only[ah,aj,ai,Act.put,au,ay,az]
   refine aC (i:=6) (v:=.slice ra m4 rc) rfl (by kernel_rfl) aA (bD ⟨by rfl,fun w1' hSw=>by (obtain⟨d0,d1,d2,d3,d4,d5,d6,d7,_,_,_,_,_,_,_,_⟩:=dO ((hSw.block _ hs1).trans jJ.o);go_simp)⟩) ‹_› ?_
   simp only[ah,aj,ai,Act.put,au,ay,az]
   refine wpAnyH_ready (rs:=[2]) (by kernel_rfl) (by simp) ?_
   refine AllReadyH.cons rfl (fun K hK=>?_) AllReadyH.nil
   simp only[ah,aj,ai]
   go_simp
   refine (Jj.o _ hHeld).mono ?_
   rintro r wb ⟨rfl,hwb⟩
   subst hwb
   go_wp2_with fail
   refine hK.o _ _ hHeld (fun hHeld=>?_)
   clear hK K
   refine aC (i:=3) (v:=.string (P0++X1)) rfl (by kernel_rfl) aA (bD ⟨by rfl,fun _ _=>by go_simp⟩) ‹_› ?_
   simp only[ah,aj,ai,Act.put,au,ay,az]
   refine aC (i:=4) (v:=.string (P0++X1++⟨#[32]⟩)) rfl (by kernel_rfl) aA (bD ⟨by rfl,fun _ _=>by go_simp⟩) ‹_› ?_
   simp only[ah,aj,ai,Act.put,au,ay,az]
   refine wpAnyH_ready (rs:=[7]) (by kernel_rfl) (by simp) ?_
   refine AllReadyH.cons rfl (fun K hK=>?_) AllReadyH.nil
   simp only[ah,aj,ai]
   go_simp
   refine (Yo.o _ hHeld).mono ?_
   rintro r wb ⟨rfl,hwb⟩
   subst hwb
   go_wp2_with fail
   refine hK.o _ _ hHeld (fun hHeld=>?_)
   clear hK K
   refine aC (i:=8) (v:=.string (P0++X1++⟨#[32]⟩++X2)) rfl (by kernel_rfl) aA (bD ⟨by rfl,fun _ _=>by go_simp⟩) ‹_› ?_
   simp only[ah,aj,ai,Act.put,au,ay,az]
   refine aC (i:=9) (v:=.string (P0++X1++⟨#[32]⟩++X2)) rfl (by kernel_rfl) aA (bD ⟨by rfl,fun _ _=>by go_simp⟩) ‹_› ?_
   simp only[ah,aj,ai,Act.put,au,ay,az]
   refine wpAnyH_done (by kernel_rfl) ?_ _
   have IY:=ae hHeld
   clear hHeld
   go_wp2_with fail
   go_meet
   case rel=>exact⟨congrArg Value.string oL.o,IY.o⟩
  ·have oL:Hid ((⟨#[40,117,110,105,111,110]⟩:ByteArray)=⟨(gm L (M.length+1)).toArray⟩):=ae (by
    rw[Ei.o,show (mF 5 nm ex cols left right ag).length=0 from rfl,Hw.o]
    rfl)
   go_wp2_with fail
   go_meet
   case rel=>exact⟨congrArg Value.string oL.o,aG _ _⟩
  ·have oL:Hid ((⟨#[40,100,105,115,116,105,110,99,116]⟩:ByteArray)=⟨(gm L (M.length+1)).toArray⟩):=ae (by
    rw[Ei.o,show (mF 6 nm ex cols left right ag).length=0 from rfl,Hw.o]
    rfl)
   go_wp2_with fail
   go_meet
   case rel=>exact⟨congrArg Value.string oL.o,aG _ _⟩
  ·have hmd:mF 7 nm ex cols left right ag=iO left::ag.map (fun g=>iO (uH g)):=rfl
   have hz1:=Ov.o 0 (iO left) rfl
   have hm1:M.length=m5+1:=by rw[Ei.o,hmd,bf,bM,Ud.o]
   have HGZ:Hid (∀ (j:Nat)(g:Ag),ag[j]?=some g→L[j+1+1]?=some (jr (iO (uH g)))):=ae (fun j g hg=>Ov.o (j+1) _ (by rw[hmd,List.getElem?_cons_succ,bP,hg];rfl))
   have Vw:=ZQ.o _ _ hz1
   have Jj:=ae (vO left (by rw[Nr.o];exact ll) (fun x hx=>HSZ.o x (List.mem_append_left _ hx)) la' lc w1 ((lV.o.kept (w':=w1) fun k hk=>HB1.o.block k hk).mono fun k hk=>aK hk HB1.o.size))
   rw[Nr.o] at Jj
   obtain⟨x1,hx1⟩:∃ x1,x1=jr (iO left):=⟨_,rfl⟩
   rw[←hx1] at hz1 Vw Jj
   have oL:Hid ((⟨#[40,103,114,111,117,112,32]⟩:ByteArray)++(⟨x1.toArray⟩:ByteArray)=⟨(gm L (0+1+1)).toArray⟩):=ae (by
    rw[nN hz1,Hw.o,show (⟨#[40,103,114,111,117,112,32]⟩:ByteArray)=⟨(40::qW 7++[32]).toArray⟩ from rfl,lC])
   have hz2:¬9223372036854775807<((⟨#[40,103,114,111,117,112,32]⟩:ByteArray)).size+(⟨x1.toArray⟩:ByteArray).size:=by
    have h7:((⟨#[40,103,114,111,117,112,32]⟩:ByteArray)).size=7:=rfl
    rw[h7,kW];omega
   have HHM:=ae hm1
   have HNE:Hid (∀ (j:Nat)(g:Ag),ag[j]?=some g→∃ b o,ga=some ⟨b,o,none⟩∧b<w.heap.size∧w.cell? ⟨b,o+j*3,none⟩=some (.string g.nm)∧w.cell? ⟨b,o+j*3+1,none⟩=some (.string g.fn)∧w.cell? ⟨b,o+j*3+2,none⟩=some (.string g.xH)):=ae (fun j g hg=>Lp HPG.o hg)
   clear hz1 Vw hx1 hmd hm1
   generalize (⟨x1.toArray⟩:ByteArray)=X1 at *
   go_wp2_with fail
   refine (Jj.o).mono ?_
   rintro e wq ⟨rfl,hwq⟩
   subst hwq
   clear Jj
   clear d0 d1 d2 d3 d4 d5 d6 d7 f0 f1 f2 f3 f4 f5 f6 f7
   go_wp2_with fail
   go_loopw [3,5] (fun s i wr=>∃ j:Nat,j≤m5∧i=.int .i64 j∧s=.string ⟨(gm L (j+1+1)).toArray⟩∧Below w1.heap.size w1 wr) (fun _ i _=>m5-(intOf i).toNat)
   case atStart=>exact⟨0,aX _,rfl,by rw[oL.o],aG _ _⟩
   case round =>
    obtain⟨j,hj,rfl,rfl,hb⟩:=hrel
    have HB:=ae hb
    have hs:=hb.size
    have gZ:=ae (HB1.o.trans (hb.mono (bV hs1)))
    have HXW:=ae ((hb.block w.heap.size hs1).trans jJ.o)
    clear hb
    obtain⟨d0,d1,d2,d3,d4,d5,d6,d7,f0,f1,f2,f3,f4,f5,f6,f7⟩:=dO HXW.o
    by_cases hlt:j<m5
    ·obtain⟨g,hg⟩:∃ g,ag[j]?=some g:=⟨_,aO (by rw[Ud.o];exact hlt)⟩
     have hgt:=HGZ.o j g hg
     obtain⟨b,o,rfl,hbl,z0,z1,z2⟩:=HNE.o j g hg
     have hsg:=ZQ.o _ _ hgt
     have c0:=(gZ.o.cell hbl).trans z0
     have c1:=(gZ.o.cell hbl).trans z1
     have c2:=(gZ.o.cell hbl).trans z2
     obtain⟨gn,gf,Gn⟩:=g
     simp only at c0 c1 c2
     obtain⟨wx,iK⟩:∃ wx,wx=wr.alloc (.cells #[.string gn,.string gf,.string Gn] 46):=⟨_,rfl⟩
     have ni:=ae iK
     have HWB:Hid (wx.heap[wr.heap.size]?=some (.cells #[.string gn,.string gf,.string Gn] 46 (0,0))):=ae (by rw[iK];exact aH wr _)
     have jW:Hid (Below w1.heap.size w1 wx):=ae (by rw[iK];exact HB.o.alloc hs _)
     clear z0 z1 z2 hbl hg iK
     obtain⟨⟨r0,r1,r2⟩,_,_,_⟩:=rD HWB.o
     obtain⟨p0,hp0⟩:∃ p0:ByteArray,p0=⟨(gm L (j+1+1)).toArray⟩:=⟨_,rfl⟩
     rw[←hp0]
     have hps:p0.size=(gm L (j+1+1)).length:=by rw[hp0];rfl
     go_upto_region 28 with (fail)
     rw[←ni.o]
     by_cases hct:gf.toList=ig
     ·have Vt:(gf.toList==[99,111,117,110,116])=true:=by rw[hct];rfl
      have hsz:p0.size+gn.size+gf.size≤400000000000000:=by
       rw[Ji,if_pos hct] at hsg
       simp only[bf,aZ,List.length_nil,Array.length_toList] at hsg
       have e1:gn.size=gn.data.size:=rfl
       have e2:gf.size=gf.data.size:=rfl
       have e3:Gn.size=Gn.data.size:=rfl
       omega
      have e41:(⟨#[41]⟩:ByteArray).size=1:=rfl
      have e32:(⟨#[32]⟩:ByteArray).size=1:=rfl
      have e34:(⟨#[32,40]⟩:ByteArray).size=2:=rfl
      have oL:Hid ((((((p0++(⟨#[32,40]⟩:ByteArray))++gn)++(⟨#[32]⟩:ByteArray))++gf)++(⟨#[41]⟩:ByteArray))=⟨(gm L (j+1+1+1)).toArray⟩):=ae (by
       rw[nN hgt,Ji,if_pos hct,hp0]
       apply ByteArray.ext
       simp[ByteArray.data_append])
      have hy0:¬9223372036854775807<(p0).size+((⟨#[32,40]⟩:ByteArray)).size:=by (try simp only[bT]);omega
      have hy1:¬9223372036854775807<((p0++(⟨#[32,40]⟩:ByteArray))).size+(gn).size:=by (try simp only[bT]);omega
      have hy2:¬9223372036854775807<(((p0++(⟨#[32,40]⟩:ByteArray))++gn)).size+((⟨#[32]⟩:ByteArray)).size:=by (try simp only[bT]);omega
      have hy3:¬9223372036854775807<((((p0++(⟨#[32,40]⟩:ByteArray))++gn)++(⟨#[32]⟩:ByteArray))).size+(gf).size:=by (try simp only[bT]);omega
      have hy4:¬9223372036854775807<(((((p0++(⟨#[32,40]⟩:ByteArray))++gn)++(⟨#[32]⟩:ByteArray))++gf)).size+((⟨#[41]⟩:ByteArray)).size:=by (try simp only[bT]);omega
      clear hgt hsg hsz hp0 hps e41 e32 e34
      go_wp2_with fail
      go_roundw
      case rel=>exact⟨j+1,by omega,by go_num,by rw[oL.o],jW.o⟩
      case measure=>simp[intOf];omega
     ·have Vt:(gf.toList==[99,111,117,110,116])=false:=by rw[beq_eq_false_iff_ne];exact hct
      have hsz:p0.size+gn.size+gf.size+Gn.size≤400000000000000:=by
       rw[Ji,if_neg hct] at hsg
       simp only[bf,aZ,List.length_nil,Array.length_toList] at hsg
       have e1:gn.size=gn.data.size:=rfl
       have e2:gf.size=gf.data.size:=rfl
       have e3:Gn.size=Gn.data.size:=rfl
       omega
      have e41:(⟨#[41]⟩:ByteArray).size=1:=rfl
      have e32:(⟨#[32]⟩:ByteArray).size=1:=rfl
      have e34:(⟨#[32,40]⟩:ByteArray).size=2:=rfl
      have oL:Hid ((((((((p0++(⟨#[32,40]⟩:ByteArray))++gn)++(⟨#[32]⟩:ByteArray))++gf)++(⟨#[32]⟩:ByteArray))++Gn)++(⟨#[41]⟩:ByteArray))=⟨(gm L (j+1+1+1)).toArray⟩):=ae (by
       rw[nN hgt,Ji,if_neg hct,hp0]
       apply ByteArray.ext
       simp[ByteArray.data_append])
      have hy0:¬9223372036854775807<(p0).size+((⟨#[32,40]⟩:ByteArray)).size:=by (try simp only[bT]);omega
      have hy1:¬9223372036854775807<((p0++(⟨#[32,40]⟩:ByteArray))).size+(gn).size:=by (try simp only[bT]);omega
      have hy2:¬9223372036854775807<(((p0++(⟨#[32,40]⟩:ByteArray))++gn)).size+((⟨#[32]⟩:ByteArray)).size:=by (try simp only[bT]);omega
      have hy3:¬9223372036854775807<((((p0++(⟨#[32,40]⟩:ByteArray))++gn)++(⟨#[32]⟩:ByteArray))).size+(gf).size:=by (try simp only[bT]);omega
      have hy4:¬9223372036854775807<(((((p0++(⟨#[32,40]⟩:ByteArray))++gn)++(⟨#[32]⟩:ByteArray))++gf)).size+((⟨#[32]⟩:ByteArray)).size:=by (try simp only[bT]);omega
      have hy5:¬9223372036854775807<((((((p0++(⟨#[32,40]⟩:ByteArray))++gn)++(⟨#[32]⟩:ByteArray))++gf)++(⟨#[32]⟩:ByteArray))).size+(Gn).size:=by (try simp only[bT]);omega
      have hy6:¬9223372036854775807<(((((((p0++(⟨#[32,40]⟩:ByteArray))++gn)++(⟨#[32]⟩:ByteArray))++gf)++(⟨#[32]⟩:ByteArray))++Gn)).size+((⟨#[41]⟩:ByteArray)).size:=by (try simp only[bT]);omega
      clear hgt hsg hsz hp0 hps e41 e32 e34
      go_wp2_with fail
      go_roundw
      case rel=>exact⟨j+1,by omega,by go_num,by rw[oL.o],jW.o⟩
      case measure=>simp[intOf];omega
    ·obtain rfl:j=m5:=by omega
     have hlen:Hid (gm L (M.length+1)=gm L (j+1+1)):=ae (by rw[HHM.o])
     go_wp2_with fail
     go_meet
     case rel=>exact⟨by rw[hlen.o],HB.o⟩
 case rest =>
  obtain⟨rfl,hbc⟩:=hcut
  have HBC:=ae hbc
  have HXC:=ae ((hbc.block w.heap.size hs1).trans jJ.o)
  have hsc:=hbc.size
  clear hbc
  go_wp2_with fail
  go_loopw [3,7] (fun s i wr=>∃ j:Nat,j≤m6∧i=.int .i64 j∧s=.string ⟨(gm L (M.length+j+1)).toArray⟩∧Below w1.heap.size w1 wr) (fun _ i _=>m6-(intOf i).toNat)
  case atStart=>exact⟨0,aX _,rfl,rfl,HBC.o⟩
  case round =>
   obtain⟨j,hj,rfl,rfl,hb⟩:=hrel
   have HB:=ae hb
   have hs:=hb.size
   have gZ:=ae (HB1.o.trans (hb.mono (bV hs1)))
   have HXW:=ae ((hb.block w.heap.size hs1).trans jJ.o)
   clear hb
   obtain⟨d0,d1,d2,d3,d4,d5,d6,d7,f0,f1,f2,f3,f4,f5,f6,f7⟩:=dO HXW.o
   by_cases hlt:j<m6
   ·obtain⟨q,hq⟩:∃ q,kids[j]?=some q:=⟨_,aO (by rw[HL6.o];exact hlt)⟩
    obtain⟨hgt,aec⟩:=HKP.o j q hq
    have hAq:=(FQ.o.kept (w':=wr) (fun k hk=>gZ.o.block k hk)).mono (S':=fun k=>k<wr.heap.size) (fun k hk=>aK hk gZ.o.size)
    obtain⟨b,o,aq,rfl,hbS,hcells,hPq⟩:=hAq.at hq
    have hcl:=ae (HM.o q (aN hq) (Xm.o q (aN hq)) aec aq wr hPq)
    have hsg:=ZQ.o _ _ hgt
    obtain⟨pt,hpt⟩:∃ pt,pt=jr (fD q):=⟨_,rfl⟩
    rw[←hpt] at hgt hcl hsg
    have oL:Hid (((⟨(gm L (M.length+j+1)).toArray⟩:ByteArray)++⟨#[32]⟩)++⟨pt.toArray⟩=⟨(gm L (M.length+(j+1)+1)).toArray⟩):=ae (by
     rw[show (⟨#[32]⟩:ByteArray)=⟨[32].toArray⟩ from rfl,lC,lC,←nN hgt]
     rfl)
    have hz:¬9223372036854775807<((⟨(gm L (M.length+j+1)).toArray⟩:ByteArray)++⟨#[32]⟩).size+(⟨pt.toArray⟩:ByteArray).size:=by simp only[bT,kW,bf,List.length_nil];omega
    have hz2:¬9223372036854775807<(⟨(gm L (M.length+j+1)).toArray⟩:ByteArray).size+(⟨#[32]⟩:ByteArray).size:=by simp only[bT,kW,bf,List.length_nil];omega
    obtain⟨qk,Yp,qex,Ez,EC,xX,qag,ED⟩:=q
    obtain⟨ea2,ec2,ca2,cc2,la2,lc2,ra2,rc2,ga2,gc2,ka2,kc2⟩:=aq
    have z0:=hcells 0 _ rfl
    have z1:=hcells 1 _ rfl
    have z2:=hcells 2 _ rfl
    have z3:=hcells 3 _ rfl
    have z4:=hcells 4 _ rfl
    have z5:=hcells 5 _ rfl
    have z6:=hcells 6 _ rfl
    have z7:=hcells 7 _ rfl
    simp only[P.val,P.k,P.nm,P.ex,P.cols,P.left,P.right,P.ag,P.kids,Nat.add_zero] at z0 z1 z2 z3 z4 z5 z6 z7 hcl
    generalize qex.length=n1 at *
    generalize Ez.length=n2 at *
    generalize EC.length=n3 at *
    generalize xX.length=n4 at *
    generalize qag.length=n5 at *
    generalize ED.length=n6 at *
    clear hgt aec hAq hq hPq hcells hsg hpt
    generalize (⟨(gm L (M.length+j+1)).toArray⟩:ByteArray)=p0 at *
    generalize (⟨pt.toArray⟩:ByteArray)=xb at *
    go_wp2_with fail
    refine (hcl.o).mono ?_
    rintro e w2 ⟨rfl,hb2⟩
    have HB2:=ae (HB.o.trans (hb2.mono hs))
    clear hb2
    go_wp2_with fail
    go_roundw
    case rel=>exact⟨j+1,by omega,by go_num,by rw[oL.o],HB2.o⟩
    case measure=>simp[intOf];omega
   ·obtain rfl:j=m6:=by omega
    have hlen:=HSL.o (M.length+j+1)
    have oL:Hid ((⟨(gm L (M.length+j+1)).toArray⟩:ByteArray)++⟨#[41]⟩=⟨(gm L L.length++[41]).toArray⟩):=ae (by
     rw[show (⟨#[41]⟩:ByteArray)=⟨[41].toArray⟩ from rfl,lC,Nl.o,show 1+M.length+j=M.length+j+1 by omega])
    have hz2:¬9223372036854775807<(⟨(gm L (M.length+j+1)).toArray⟩:ByteArray).size+(⟨#[41]⟩:ByteArray).size:=by simp only[bT,kW,bf,List.length_nil];omega
    clear hlen
    generalize (⟨(gm L (M.length+j+1)).toArray⟩:ByteArray)=p0 at *
    go_wp2_with fail
    go_ret
    exact⟨congrArg (fun x:ByteArray=>Ending.returned (Value.string x)) oL.o,gZ.o⟩
theorem SC:∀ p,Jh p:=P.ind fun k nm ex cols left right ag kids ih=>OH k nm ex cols left right ag kids ih
theorem Lr {iH acc:List C} {ag:List Ag} {l:List ByteArray} {k:Nat} {s:ByteArray} (h:l[k]?=some s) :
 jB iH ag acc (l.drop k)=if fO iH s=false then kQ 20 s else if fO acc s=true then kQ 21 s else jB iH ag (acc++[kU iH (gU iH s)]) (l.drop (k+1)):=by
 obtain⟨h1,e1⟩:=aV.1 h
 rw[bY h1,e1,jB]
theorem OI {iH acc:List C} {ag:List Ag} {l:List ByteArray} {k:Nat} (h:l.length≤k):jB iH ag acc (l.drop k)=iW iH acc ag:=by
 rw[bW h,jB]
theorem Ls {iH acc:List C} {l:List Ag} {k:Nat} {g:Ag} (h:l[k]?=some g) :
 iW iH acc (l.drop k)=if fO acc g.nm=true then kQ 21 g.nm
 else if g.fn.toList=ig then iW iH (acc++[⟨g.nm,1⟩]) (l.drop (k+1))
 else if fO iH g.xH=false then kQ 20 g.xH
 else if g.fn.toList=pY∧(kU iH (gU iH g.xH)).k≠1 then kQ 22 g.xH
 else iW iH (acc++[⟨g.nm,(kU iH (gU iH g.xH)).k⟩]) (l.drop (k+1)):=by
 obtain⟨h1,e1⟩:=aV.1 h
 rw[bY h1,e1,iW]
theorem OJ {iH acc:List C} {l:List Ag} {k:Nat} (h:l.length≤k):iW iH acc (l.drop k)=gQ acc:=by
 rw[bW h,iW]
theorem group_any (p:P)(a:PA)(w:World)(hA:kY w (fun k=>k<w.heap.size) p a)(Aw:p.left.length≤600)(hg6:p.ag.length≤600)
 (B:Option Addr)(d:Nat)(iH:List C)(hin:iH.length≤1000)(hI:l9 w w.heap.size B iH) :
 Calls Tryz.prog 51 #[p.val a,.slice B iH.length d] w fun e w'=>yT (fun k=>w.heap.size≤k∧k<w'.heap.size) (jB iH p.ag [] p.left) e w'∧Below w.heap.size w w':=by
 obtain⟨k,nm,ex,cols,left,right,ag,kids⟩:=p
 obtain⟨⟨pe,pc,pl,pr',pg,l1,l2,l3,l4,l5⟩,pk⟩:=hA
 simp only[P.val,P.k,P.nm,P.ex,P.cols,P.left,P.right,P.ag,P.kids] at pl pg Aw hg6 ⊢
 obtain⟨ea,ec,ca,cc,la',lc,ra,rc,ga,gc,ka,kc⟩:=a
 simp only at pl pg ⊢
 obtain⟨R,hR⟩:∃ R,R=jB iH ag [] left:=⟨_,rfl⟩
 rw[←hR]
 have lV:=ae pl
 have HPG:=ae pg
 have HFI:=ae (fun s w' (hb:Below w.heap.size w w')=>oG B d iH (by omega) s w' ((hI.below hb).more hb.size))
 have HAT:Hid (∀ s,fO iH s=true→∃ (j:Nat),gU iH s=(j:Int)∧j<iH.length∧∃ b o,B=some ⟨b,o,none⟩∧b<w.heap.size∧w.cell? ⟨b,o+j*2,none⟩=some (.string (kU iH (gU iH s)).nm)∧w.cell? ⟨b,o+j*2+1,none⟩=some (.int .i64 (kU iH (gU iH s)).k)):=ae (fun s h=>by
  obtain⟨j,x,h1,h2,h3⟩:=DZ h
  obtain⟨b,o,hA,hb,hc,hc2⟩:=hI.gy h2
  rw[h3]
  exact⟨j,h1,(aV.1 h2).1,b,o,hA,hb,hc,hc2⟩)
 have HR:=ae hR
 clear pe pc pl pr' pg pk l1 l2 l3 l4 l5 hI hR
 generalize hm1:ex.length=m1 at *
 generalize hm2:cols.length=m2 at *
 generalize NI:left.length=m3 at *
 generalize hm4:right.length=m4 at *
 generalize ZJ:ag.length=m5 at *
 generalize Np:kids.length=m6 at *
 generalize hna:iH.length=na at *
 have Qg:=ae hna
 have HM3:=ae NI
 have HM5:=ae ZJ
 clear hm1 hm2 NI hm4 ZJ Np hna
 obtain⟨w0,zf⟩:∃ w0,w0=w.alloc (.cells #[.int .i64 k,.string nm,.slice ea m1 ec,.slice ca m2 cc,.slice la' m3 lc,.slice ra m4 rc,.slice ga m5 gc,.slice ka m6 kc] 27):=⟨_,rfl⟩
 have hb0:Below w.heap.size w w0:=by rw[zf];exact (aG _ _).alloc (aF _) _
 have hs0:w0.heap.size=w.heap.size+1:=by rw[zf];simp
 have hx0:w0.heap[w.heap.size]?=some (.cells #[.int .i64 k,.string nm,.slice ea m1 ec,.slice ca m2 cc,.slice la' m3 lc,.slice ra m4 rc,.slice ga m5 gc,.slice ka m6 kc] 27 (0,0)):=by rw[zf];exact aH w _
 obtain⟨w1,dZ⟩:∃ w1,w1=w0.alloc (.cells #[.int .i64 0,.string ⟨#[]⟩] 61):=⟨_,rfl⟩
 have hb1:Below w0.heap.size w0 w1:=by rw[dZ];exact (aG _ _).alloc (aF _) _
 have hs1:w.heap.size+1<w1.heap.size:=by rw[dZ];simp;omega
 have jJ:Hid (w1.heap[w.heap.size]?=some (.cells #[.int .i64 k,.string nm,.slice ea m1 ec,.slice ca m2 cc,.slice la' m3 lc,.slice ra m4 rc,.slice ga m5 gc,.slice ka m6 kc] 27 (0,0))):=ae ((hb1.block _ (by omega)).trans hx0)
 have Ob:Hid (w1.heap[w.heap.size+1]?=some (.cells #[.int .i64 0,.string ⟨#[]⟩] 61 (0,0))):=ae (by rw[dZ,←hs0];exact aH w0 _)
 have HW1:=ae (show w1=(w.alloc (.cells #[.int .i64 k,.string nm,.slice ea m1 ec,.slice ca m2 cc,.slice la' m3 lc,.slice ra m4 rc,.slice ga m5 gc,.slice ka m6 kc] 27)).alloc (.cells #[.int .i64 0,.string ⟨#[]⟩] 61) by rw[dZ,zf])
 have HB1:=ae (hb0.trans (hb1.mono (by omega)))
 clear zf hb0 hs0 hx0 dZ hb1
 obtain⟨i0,hi,hz0,hz1,hz2⟩:=info_parts vw
 obtain⟨d0,d1,d2,d3,d4,d5,d6,d7,_,_,_,_,_,_,_,_⟩:=dO jJ.o
 go_enter Tryz.func51,Tryz.ntmps51
 go_upto_region 1 with (fail)
 rw[←HW1.o]
 go_upto_region 3 with (fail)
 clear d0 d1 d2 d3 d4 d5 d6 d7
 go_loopw [6,19] (fun v i wr=>∃ (k:Nat)(A':Option Addr)(c':Nat)(acc:List C),k≤m3∧i=.int .i64 k∧acc.length=k∧v=.slice A' k c'∧wr.ownsRow w1.heap.size 42 2 (.slice A' k c') k (iM acc)∧Below w1.heap.size w1 wr∧Hid (R=jB iH ag acc (left.drop k))) (fun _ i _=>m3-(intOf i).toNat)
 case atStart=>exact⟨0,none,0,[],aX _,rfl,rfl,rfl,⟨rfl,.inl ⟨rfl,rfl⟩⟩,aG _ _,by simpa using HR⟩
 case round =>
  obtain⟨j,A',c',acc,hj,rfl,hal,rfl,hown,hb,HL⟩:=hrel
  have HO:=ae hown
  have HB:=ae hb
  have hs:=hb.size
  have gZ:=ae (HB1.o.trans (hb.mono (by omega)))
  have xq:=ae ((hb.block w.heap.size (by omega)).trans jJ.o)
  have HER:=ae ((hb.block (w.heap.size+1) (by omega)).trans Ob.o)
  have C9:=ae hal
  obtain⟨A3,c3,e3,hc3,hCS⟩:=qA (S:=fun k=>w1.heap.size≤k∧k<wr.heap.size) (by rw[C9.o];exact HO.o) (fun g h1 h2 _=>⟨h1,h2⟩)
  rw[hal] at e3 hc3
  obtain⟨rfl,rfl⟩:A'=A3∧c'=c3:=by injection e3 with e4 _ e5;exact⟨e4,e5⟩
  have Rl:=ae hCS
  have HC3:=ae hc3
  clear hown hb hal e3 hCS hc3
  obtain⟨d0,d1,d2,d3,d4,d5,d6,d7,_,_,_,_,_,_,_,_⟩:=dO xq.o
  have Nv:j≤600:=by omega
  by_cases hlt:j<m3
  ·obtain⟨s,hsx⟩:∃ s,left[j]?=some s:=⟨_,aO (by rw[HM3.o];exact hlt)⟩
   obtain⟨bl,ol,rfl,hbl,hcl⟩:=zg lV.o hsx
   have ahC:=(gZ.o.cell (show (⟨bl,ol+j,none⟩:Addr).block<w.heap.size from hbl)).trans hcl
   have hst:=ae (HL.o.trans (Lr hsx))
   have HF:=ae (HFI.o s wr gZ.o)
   have HAS:=ae (HAT.o s)
   have Nq:=ae (fun w' (hb:Below wr.heap.size wr w')=>CW A' c' acc (by rw[C9.o];omega) s w' ((Rl.o.kept fun k hk=>hb.block k hk.2).to fun k hk=>aK hk.2 hb.size))
   rw[C9.o] at Nq
   obtain⟨xc,Ul⟩:∃ xc,xc=kU iH (gU iH s):=⟨_,rfl⟩
   rw[←Ul] at hst HAS
   clear Ul hcl hsx HL
   generalize gU iH s=fi at *
   generalize fO iH s=q at *
   generalize fO acc s=f at *
   obtain⟨xn,xk⟩:=xc
   simp only at HAS
   go_wp2_with fail
   refine (HF.o).mono ?_
   rintro r w3 ⟨rfl,hb3⟩
   have HB3:=ae hb3
   have N9:=ae (gZ.o.trans (hb3.mono gZ.o.size))
   have UJ:=ae ((hb3.block (w.heap.size+1) (by omega)).trans HER.o)
   have hs3:=hb3.size
   clear hb3 d0 d1 d2 d3 d4 d5 d6 d7 ahC
   obtain⟨⟨r0,r1⟩,g0,g1⟩:=cell2 UJ.o
   cases q
   ·have hr:Hid (R=kQ 20 s):=ae (by rw[hst.o,if_pos rfl])
    go_wp2_with fail
    refine aJ (eF rfl rfl rfl (eX UJ.o)) rfl ?_
    exact⟨je (by decide) hr.o rfl,eG N9.o (aW _)⟩
   have hst2:Hid (R=if f=true then kQ 21 s else jB iH ag (acc++[⟨xn,xk⟩]) (left.drop (j+1))):=ae (by rw[hst.o,if_neg (by decide)])
   obtain⟨fj,rfl,hfj,bi,oi,rfl,hbi,z0,z1⟩:=HAS.o (by first|rfl|trivial)
   have ahD:(fj:Int)<(na:Int):=by omega
   clear hst
   go_wp2_with fail
   refine (Nq.o w3 HB3.o).mono ?_
   rintro r w4 ⟨rfl,hb4⟩
   have HB4:=ae (HB3.o.trans (hb4.mono hs3))
   have wX:=ae (gZ.o.trans (HB4.o.mono gZ.o.size))
   have Rq:=ae ((hb4.block (w.heap.size+1) (by omega)).trans UJ.o)
   have hs4:=HB4.o.size
   have y0:=(wX.o.cell hbi).trans z0
   have y1:=(wX.o.cell hbi).trans z1
   clear hb4 r0 r1 g0 g1 z0 z1
   obtain⟨⟨r0,r1⟩,g0,g1⟩:=cell2 Rq.o
   cases f
   ·have HL2:Hid (R=jB iH ag (acc++[⟨xn,xk⟩]) (left.drop (j+1))):=ae (by rw[hst2.o,if_neg (by decide)])
    have mP:=ae (own_below HO.o HB4.o)
    clear hst2
    go_wp2_with (at_builtin;refine wpList_append_lies _ rfl _ _ 29 rfl w1.heap.size 42 i0 _ 2 24 Tryz.underlying29 hi hz0 hz1 hz2 rfl (by decide) (.slice A' j c') j (iM acc) rfl (mP.o.alloc _) ⟨w4.heap.size,0,none⟩ 1 1 [.string xn,.int .i64 xk] rfl rfl ?c1 ?c2 (by decide) ?c3 ?c4 ?c5 _ rfl ?_)
    case c1=>exact bz (aH w4 _)
    case c2=>intro u hu;simp only[bZ,bI,or_false] at hu;rcases hu with rfl|rfl <;> rfl
    case c3=>exact oq rfl Nv
    case c4=>exact lX rfl Nv (by decide)
    case c5=>simp;omega
    intro g' cap w5 hown hgrow hat Au
    have jq:=ae hown
    have jA:=ae (((HB.o.trans (HB4.o.mono hs)).alloc (by omega) (.cells #[.string xn,.int .i64 xk] 42)).grown hgrow (by simp;omega) (fun k e=>(mP.o.lt k e).1))
    clear hown hgrow hat
    go_wp2_with fail
    go_roundw
    case rel=>exact⟨j+1,_,cap,acc++[⟨xn,xk⟩],by omega,by go_num,by simp[C9.o],rfl,by rw[kH,pR];exact jq.o,jA.o,HL2⟩
    case measure=>simp[intOf];omega
   ·have hr:Hid (R=kQ 21 s):=ae (by rw[hst2.o,if_pos rfl])
    clear hst2
    go_wp2_with fail
    refine aJ (eF rfl rfl rfl (eX Rq.o)) rfl ?_
    exact⟨je (by decide) hr.o rfl,eG wX.o (aW _)⟩
  ·obtain rfl:j=m3:=by omega
   have HL2:Hid (R=iW iH acc ag):=ae (by rw[HL.o,OI (by rw[HM3.o];exact aF _)])
   clear HL
   go_upto_region 13 with (fail)
   clear d0 d1 d2 d3 d4 d5 d6 d7
   go_loopw [6,51] (fun v i wr=>∃ (k:Nat)(A':Option Addr)(c':Nat)(acc:List C),k≤m5∧i=.int .i64 k∧acc.length≤600+k∧v=.slice A' acc.length c'∧wr.ownsRow w1.heap.size 42 2 (.slice A' acc.length c') acc.length (iM acc)∧Below w1.heap.size w1 wr∧Hid (R=iW iH acc (ag.drop k))) (fun _ i _=>m5-(intOf i).toNat)
   case atStart=>exact⟨0,A',c',acc,aX _,rfl,by rw[C9.o];omega,by rw[C9.o],by rw[C9.o];exact HO.o,HB.o,by simpa using HL2⟩
   case round =>
    clear HO HB gZ xq HER C9 Rl HC3 HL2
    obtain⟨j,A',c',acc,hj,rfl,hal,rfl,hown,hb,HL⟩:=hrel
    have HO:=ae hown
    have HB:=ae hb
    have hs:=hb.size
    have gZ:=ae (HB1.o.trans (hb.mono (by omega)))
    have xq:=ae ((hb.block w.heap.size (by omega)).trans jJ.o)
    have HER:=ae ((hb.block (w.heap.size+1) (by omega)).trans Ob.o)
    obtain⟨A4,c4,e4,hc4,hCS⟩:=qA (S:=fun k=>w1.heap.size≤k∧k<wr.heap.size) HO.o (fun g h1 h2 _=>⟨h1,h2⟩)
    obtain⟨rfl,rfl⟩:A'=A4∧c'=c4:=by injection e4 with e5 _ e6;exact⟨e5,e6⟩
    have Rl:=ae hCS
    have Xj:=ae hc4
    have hacc:acc.length≤1200:=by omega
    clear hown hb e4 hCS hc4
    obtain⟨d0,d1,d2,d3,d4,d5,d6,d7,_,_,_,_,_,_,_,_⟩:=dO xq.o
    by_cases hlt:j<m5
    ·obtain⟨g,hg⟩:∃ g,ag[j]?=some g:=⟨_,aO (by rw[HM5.o];exact hlt)⟩
     obtain⟨bg,og,rfl,hbg,z0,z1,z2⟩:=Lp HPG.o hg
     have y0:=(gZ.o.cell (show (⟨bg,og+j*3,none⟩:Addr).block<w.heap.size from hbg)).trans z0
     have y1:=(gZ.o.cell (show (⟨bg,og+j*3+1,none⟩:Addr).block<w.heap.size from hbg)).trans z1
     have y2:=(gZ.o.cell (show (⟨bg,og+j*3+2,none⟩:Addr).block<w.heap.size from hbg)).trans z2
     have hst:=ae (HL.o.trans (Ls hg))
     obtain⟨wx,iK⟩:∃ wx,wx=wr.alloc (.cells #[.string g.nm,.string g.fn,.string g.xH] 46):=⟨_,rfl⟩
     have hbx:Below wr.heap.size wr wx:=by rw[iK];exact (aG _ _).alloc (aF _) _
     have hnx:wx.heap[wr.heap.size]?=some (.cells #[.string g.nm,.string g.fn,.string g.xH] 46 (0,0)):=by rw[iK];exact aH wr _
     have hxs:wr.heap.size<wx.heap.size:=(aU.1 hnx).1
     have jW:=ae (HB.o.trans (hbx.mono hs))
     have UL:=ae (HB1.o.trans (jW.o.mono (by omega)))
     have HF:=ae (HFI.o g.xH wx UL.o)
     have HAS:=ae (HAT.o g.xH)
     have Nq:=ae (fun w' (hb:Below wx.heap.size wx w')=>CW A' c' acc (by omega) g.nm w' ((Rl.o.kept fun k hk=>(hb.block k (aK hk.2 hbx.size)).trans (hbx.block k hk.2)).to fun k hk=>aK hk.2 (aS hbx.size hb.size)))
     have HOX:=ae (own_below HO.o hbx)
     obtain⟨xc,Ul⟩:∃ xc,xc=kU iH (gU iH g.xH):=⟨_,rfl⟩
     rw[←Ul] at hst HAS
     have ni:=ae iK
     have BH:=ae hnx
     obtain⟨gn,gf,gc'⟩:=g
     simp only at y0 y1 y2 BH ni hst Nq HF HAS
     clear Ul z0 z1 z2 hg iK hbx hnx HL
     generalize gU iH gc'=fi at *
     generalize fO iH gc'=q at *
     generalize fO acc gn=f at *
     obtain⟨xn,xk⟩:=xc
     simp only at HAS hst
     generalize IZ:acc.length=al at *
     have wY:=ae IZ
     clear IZ
     obtain⟨⟨n0,n1,n2⟩,_,_,_⟩:=rD BH.o
     go_upto_region 15 with (fail)
     rw[←ni.o]
     clear d0 d1 d2 d3 d4 d5 d6 d7 y0 y1 y2
     go_wp2_with fail
     refine (HF.o).mono ?_
     rintro r w3 ⟨rfl,hb3⟩
     have HB3:=ae hb3
     have HN3:=ae ((hb3.block wr.heap.size hxs).trans BH.o)
     have hs3:=hb3.size
     clear hb3 n0 n1 n2
     obtain⟨⟨n0,n1,n2⟩,_,_,_⟩:=rD HN3.o
     go_wp2_with fail
     refine (Nq.o w3 HB3.o).mono ?_
     rintro r w4 ⟨rfl,hb4⟩
     have HB4:=ae (jW.o.trans ((HB3.o.trans (hb4.mono hs3)).mono jW.o.size))
     have wX:=ae (HB1.o.trans (HB4.o.mono (by omega)))
     have Rq:=ae ((HB4.o.block (w.heap.size+1) (by omega)).trans Ob.o)
     have ZR:=ae ((hb4.block wr.heap.size (by omega)).trans HN3.o)
     have mP:=ae (own_below (own_below HOX.o HB3.o) hb4)
     have hs4:=HB4.o.size
     clear hb4 n0 n1 n2
     obtain⟨⟨n0,n1,n2⟩,_,_,_⟩:=rD ZR.o
     obtain⟨⟨r0,r1⟩,g0,g1⟩:=cell2 Rq.o
     have HRT:Hid (∀ (why:Int)(nm:ByteArray),why≠0→R=kQ why nm→True):=ae (fun _ _ _ _=>trivial)
     cases f
     rotate_left
     ·have hr:Hid (R=kQ 21 gn):=ae (by rw[hst.o,if_pos rfl])
      clear hst
      go_upto_region 19 with (fail)
      go_region
      all_goals
       go_wp2_with fail
       refine aJ (eF rfl rfl rfl (mW Rq.o)) rfl ?_
       exact⟨je (by decide) hr.o rfl,(eG wX.o (aW _)).drew⟩
     have hst2:Hid (R=if gf.toList=ig then iW iH (acc++[⟨gn,1⟩]) (ag.drop (j+1)) else if q=false then kQ 20 gc' else if gf.toList=pY∧xk≠1 then kQ 22 gc' else iW iH (acc++[⟨gn,xk⟩]) (ag.drop (j+1))):=ae (by rw[hst.o,if_neg (by decide)])
     clear hst
     by_cases hct:gf.toList=ig
     ·have Vt:(gf.toList==[99,111,117,110,116])=true:=by rw[hct];rfl
      have HL2:Hid (R=iW iH (acc++[⟨gn,1⟩]) (ag.drop (j+1))):=ae (by rw[hst2.o,if_pos hct])
      clear hst2 hct
      go_wp2_with (at_builtin;refine wpList_append_lies _ rfl _ _ 29 rfl w1.heap.size 42 i0 _ 2 24 Tryz.underlying29 hi hz0 hz1 hz2 rfl (by decide) (.slice A' al c') al (iM acc) rfl (mP.o.alloc _) ⟨w4.heap.size,0,none⟩ 1 1 [.string gn,.int .i64 1] rfl rfl ?ahE ?ahF (by decide) ?ahG ?ahH ?ahI _ rfl ?_)
      case ahE=>exact bz (aH w4 _)
      case ahF=>intro u hu;simp only[bZ,bI,or_false] at hu;rcases hu with rfl|rfl <;> rfl
      case ahG=>unfold maxLen;omega
      case ahH=>omega
      case ahI=>simp;omega
      intro g' cap w6 hown hgrow hat aaz
      have qR:=ae hown
      have kD:=ae ((HB4.o.alloc (by omega) (.cells #[.string gn,.int .i64 1] 42)).grown hgrow (by simp;omega) (fun k e=>(mP.o.lt k e).1))
      clear hown hgrow hat
      go_wp2_with fail
      go_roundw
      case rel=>exact⟨j+1,some ⟨g',0,none⟩,cap,acc++[⟨gn,1⟩],by omega,by go_num,by rw[aZ,wY.o];simp;omega,by rw[aZ,wY.o];rfl,by rw[aZ,wY.o,kH,pR];exact qR.o,kD.o,HL2⟩
      case measure=>simp[intOf];omega
     have Vt:(gf.toList==[99,111,117,110,116])=false:=by rw[beq_eq_false_iff_ne];exact hct
     have hst3:Hid (R=if q=false then kQ 20 gc' else if gf.toList=pY∧xk≠1 then kQ 22 gc' else iW iH (acc++[⟨gn,xk⟩]) (ag.drop (j+1))):=ae (by rw[hst2.o,if_neg hct])
     clear hst2 hct
     cases q
     ·have hr:Hid (R=kQ 20 gc'):=ae (by rw[hst3.o,if_pos rfl])
      clear hst3
      go_upto_region 22 with (fail)
      go_region
      all_goals
       go_wp2_with fail
       refine aJ (eF rfl rfl rfl (mW Rq.o)) rfl ?_
       exact⟨je (by decide) hr.o rfl,(eG wX.o (aW _)).drew⟩
     have SE:Hid (R=if gf.toList=pY∧xk≠1 then kQ 22 gc' else iW iH (acc++[⟨gn,xk⟩]) (ag.drop (j+1))):=ae (by rw[hst3.o,if_neg (by decide)])
     obtain⟨fj,rfl,hfj,bi,oi,rfl,hbi,u0,u1⟩:=HAS.o (by first|rfl|trivial)
     have ahD:(fj:Int)<(na:Int):=by omega
     have u1':=(wX.o.cell hbi).trans u1
     clear hst3 u0 u1
     by_cases hsm:gf.toList=pY
     ·have ahJ:(gf.toList==[115,117,109])=true:=by rw[hsm];rfl
      by_cases hk1:xk=1
      ·subst hk1
       have HL2:Hid (R=iW iH (acc++[⟨gn,1⟩]) (ag.drop (j+1))):=ae (by rw[SE.o,if_neg (fun h=>h.2 rfl)])
       clear SE hsm
       go_wp2_with (at_builtin;refine wpList_append_lies _ rfl _ _ 29 rfl w1.heap.size 42 i0 _ 2 24 Tryz.underlying29 hi hz0 hz1 hz2 rfl (by decide) (.slice A' al c') al (iM acc) rfl (mP.o.alloc _) ⟨w4.heap.size,0,none⟩ 1 1 [.string gn,.int .i64 1] rfl rfl ?ahK ?ahL (by decide) ?ahM ?ahN ?ahO _ rfl ?_)
       case ahK=>exact bz (aH w4 _)
       case ahL=>intro u hu;simp only[bZ,bI,or_false] at hu;rcases hu with rfl|rfl <;> rfl
       case ahM=>unfold maxLen;omega
       case ahN=>omega
       case ahO=>simp;omega
       intro g' cap w6 hown hgrow hat aaz
       have qR:=ae hown
       have kD:=ae ((HB4.o.alloc (by omega) (.cells #[.string gn,.int .i64 1] 42)).grown hgrow (by simp;omega) (fun k e=>(mP.o.lt k e).1))
       clear hown hgrow hat
       go_wp2_with fail
       go_roundw
       case rel=>exact⟨j+1,some ⟨g',0,none⟩,cap,acc++[⟨gn,1⟩],by omega,by go_num,by rw[aZ,wY.o];simp;omega,by rw[aZ,wY.o];rfl,by rw[aZ,wY.o,kH,pR];exact qR.o,kD.o,HL2⟩
       case measure=>simp[intOf];omega
      ·have ac9:(xk != 1)=true:=by simpa using hk1
       have hr:Hid (R=kQ 22 gc'):=ae (by rw[SE.o,if_pos ⟨hsm,hk1⟩])
       clear SE hsm hk1
       go_upto_region 24 with (fail)
       go_region
       all_goals
        go_wp2_with fail
        refine aJ (eF rfl rfl rfl (mW Rq.o)) rfl ?_
        exact⟨je (by decide) hr.o rfl,(eG wX.o (aW _)).drew⟩
     ·have ahJ:(gf.toList==[115,117,109])=false:=by rw[beq_eq_false_iff_ne];exact hsm
      have HL2:Hid (R=iW iH (acc++[⟨gn,xk⟩]) (ag.drop (j+1))):=ae (by rw[SE.o,if_neg (fun h=>hsm h.1)])
      clear SE hsm
      go_wp2_with (at_builtin;refine wpList_append_lies _ rfl _ _ 29 rfl w1.heap.size 42 i0 _ 2 24 Tryz.underlying29 hi hz0 hz1 hz2 rfl (by decide) (.slice A' al c') al (iM acc) rfl (mP.o.alloc _) ⟨w4.heap.size,0,none⟩ 1 1 [.string gn,.int .i64 xk] rfl rfl ?ahP ?ahQ (by decide) ?ahR ?ahS ?ahT _ rfl ?_)
      case ahP=>exact bz (aH w4 _)
      case ahQ=>intro u hu;simp only[bZ,bI,or_false] at hu;rcases hu with rfl|rfl <;> rfl
      case ahR=>unfold maxLen;omega
      case ahS=>omega
      case ahT=>simp;omega
      intro g' cap w6 hown hgrow hat aaz
      have qR:=ae hown
      have kD:=ae ((HB4.o.alloc (by omega) (.cells #[.string gn,.int .i64 xk] 42)).grown hgrow (by simp;omega) (fun k e=>(mP.o.lt k e).1))
      clear hown hgrow hat
      go_wp2_with fail
      go_roundw
      case rel=>exact⟨j+1,some ⟨g',0,none⟩,cap,acc++[⟨gn,xk⟩],by omega,by go_num,by rw[aZ,wY.o];simp;omega,by rw[aZ,wY.o];rfl,by rw[aZ,wY.o,kH,pR];exact qR.o,kD.o,HL2⟩
      case measure=>simp[intOf];omega
    ·obtain rfl:j=m5:=by omega
     have Nr:Hid (R=gQ acc):=ae (by rw[HL.o,OJ (by rw[HM5.o];exact aF _)])
     have He:=ae (vg A' c' acc (by omega) Xj.o wr Rl.o (fun k hk=>hk.2))
     rw[←Nr.o] at He
     clear HL Nr
     generalize IZ:acc.length=al at *
     clear IZ
     go_wp2_with fail
     refine (He.o).mono ?_
     rintro r w4 ⟨⟨A9,n9,c9,rfl,G8⟩,hb4⟩
     have J8:=ae G8
     have wX:=ae (gZ.o.trans (hb4.mono gZ.o.size))
     have Rq:=ae ((hb4.block (w.heap.size+1) (by omega)).trans HER.o)
     have hs4:=hb4.size
     clear hb4 G8
     obtain⟨⟨r0,r1⟩,g0,g1⟩:=cell2 Rq.o
     go_wp2_with fail
     refine aJ (eF rfl rfl rfl (eX Rq.o)) rfl ?_
     refine⟨⟨A9,n9,c9,rfl,fun h=>?_⟩,eG wX.o (aW _)⟩
     obtain⟨h1,h2,h3⟩:=J8.o h
     refine⟨h1,h2,(h3.kept fun k hk=>jT (by omega)).mono fun k hk=>⟨by omega,by have:=hk.2;simp[World.setCell];omega⟩⟩
def Gp (D:List DM)(nm:ByteArray):uZ:=if idx (DM.oM nm) D 0<0 then kQ 20 nm else ((D.getD (idx (DM.oM nm) D 0).toNat ⟨⟨#[]⟩,none,0,[]⟩).cols,0,⟨#[]⟩)
def Qy (a:List C)(e:E):uZ:=(a,if (jf a e).2=0∧(jf a e).1≠1 then 22 else (jf a e).2,⟨#[]⟩)
def Lt (D:List DM)(k:Int)(nm:ByteArray)(ex:List E)(cols left right:List ByteArray)(ag:List Ag)(a b:List C):uZ :=
 if k=1 then Gp D nm else if k=2 then Qy a (ex.getD 0 zeroE) else if k=3 then iL a [] (cols.zip ex) else if k=4 then qU a b left right
 else if k=5 then qy a b else if k=7 then jB a ag [] left else (a,0,⟨#[]⟩)
def wZ (l:List uZ)(i:Nat):List C:=(l.getD i ([],0,⟨#[]⟩)).1
def badR:List uZ→Option (Int×ByteArray)
 | []=>none
 | r::l=>if r.2.1=0 then badR l else some r.2
def BP (D:List DM)(k:Int)(nm:ByteArray)(ex:List E)(cols left right:List ByteArray)(ag:List Ag)(l:List uZ):uZ :=
 match badR l with
 | some r=>([],r)
 | none=>Lt D k nm ex cols left right ag (wZ l 0) (wZ l 1)
mutual
def gK (D:List DM):P→uZ
 | .mk k nm ex cols left right ag kids=>BP D k nm ex cols left right ag (xw D kids)
def xw (D:List DM):List P→List uZ
 | []=>[]
 | x::l=>gK D x::xw D l
end
theorem pW (D:List DM)(l:List P):xw D l=l.map (gK D):=by
 induction l with
 | nil=>rw[xw];rfl
 | cons x l ih=>rw[xw,ih];rfl
theorem SG {l:List uZ} (h:∀ (i:Nat)(r:uZ),l[i]?=some r→r.2.1=0):badR l=none:=by
 induction l with
 | nil=>rfl
 | cons x l ih=>rw[badR,if_pos (h 0 x rfl)];exact ih fun i r hr=>h (i+1) r hr
theorem SH {l:List uZ} {j:Nat} {r:uZ} (hr:l[j]?=some r)(hb:r.2.1≠0)(h:∀ (i:Nat)(x:uZ),i<j→l[i]?=some x→x.2.1=0):badR l=some r.2:=by
 induction l generalizing j with
 | nil=>simp at hr
 | cons x l ih =>
   cases j with
   | zero =>
     obtain rfl:x=r:=by simpa using hr
     rw[badR,if_neg hb]
   | succ j =>
     rw[badR,if_pos (h 0 x (Nat.succ_pos _) rfl)]
     exact ih hr fun i y hi hy=>h (i+1) y (Nat.succ_lt_succ hi) hy
theorem Vx {D:List DM} {k:Int} {nm:ByteArray} {ex:List E} {cols left right:List ByteArray} {ag:List Ag} {kids:List P} {j:Nat} {x:P} (hx:kids[j]?=some x)(hb:(gK D x).2.1≠0)
 (h:∀ (i:Nat)(y:P),i<j→kids[i]?=some y→(gK D y).2.1=0):gK D (.mk k nm ex cols left right ag kids)=([],(gK D x).2):=by
 rw[gK,pW,BP,SH (r:=gK D x) (j:=j) (by rw[bP,hx];rfl) hb]
 intro i y hi hy
 rw[bP] at hy
 cases hz:kids[i]? with
 | none=>rw[hz] at hy;cases hy
 | some z =>
   rw[hz] at hy
   obtain rfl:gK D z=y:=by simpa using hy
   exact h i z hi hz
theorem SI {D:List DM} {k:Int} {nm:ByteArray} {ex:List E} {cols left right:List ByteArray} {ag:List Ag} {kids:List P}
 (h:∀ (i:Nat)(y:P),kids[i]?=some y→(gK D y).2.1=0):gK D (.mk k nm ex cols left right ag kids)=Lt D k nm ex cols left right ag (wZ (kids.map (gK D)) 0) (wZ (kids.map (gK D)) 1):=by
 rw[gK,pW,BP,SG]
 intro i y hy
 rw[bP] at hy
 cases hz:kids[i]? with
 | none=>rw[hz] at hy;cases hy
 | some z =>
   rw[hz] at hy
   obtain rfl:gK D z=y:=by simpa using hy
   exact h i z hz
theorem vS (l:List C):(gQ l).1.length≤6:=by
 unfold gQ
 split
 ·simp[kQ]
 ·show l.length≤6
  omega
theorem BQ (iH:List C):∀ (l:List (ByteArray×E))(acc:List C),(iL iH acc l).1.length≤6
 | [],acc=>vS acc
 | (c,e)::r,acc=>by
   rw[iL]
   split
   ·split
    ·simp[kQ]
    ·exact BQ iH r _
   ·simp[kQ]
theorem Bc (right:List ByteArray):∀ (l acc:List C),(kE right acc l).1.length≤6
 | [],acc=>vS acc
 | c::r,acc=>by
   rw[kE]
   split
   ·exact Bc right r _
   ·split
    ·simp[kQ]
    ·exact Bc right r _
theorem SK (a b:List C)(l r:List ByteArray):(qU a b l r).1.length≤6:=by
 unfold qU
 split
 ·simp[kQ]
 ·split
  ·exact Bc r b a
  ·simp
theorem EE (a:List C):∀ (l r:List C),(kS a l r).1.length≤a.length
 | [],_=>by rw[kS];exact aF _;intro _ _ _ _ h;cases h
 | _::_,[]=>by rw[kS];exact aF _;intro _ _ _ _ _ h;cases h
 | x::l,y::r=>by
   rw[kS]
   split
   ·exact EE a l r
   ·simp[kQ]
theorem OL (a b:List C):(qy a b).1.length≤a.length:=by
 unfold qy
 split
 ·exact EE a a b
 ·simp[kQ]
theorem xY (iH:List C):∀ (l:List Ag)(acc:List C),(iW iH acc l).1.length≤6
 | [],acc=>vS acc
 | g::r,acc=>by
   rw[iW]
   split
   ·simp[kQ]
   ·split
    ·exact xY iH r _
    ·split
     ·simp[kQ]
     ·split
      ·simp[kQ]
      ·exact xY iH r _
theorem EF (iH:List C)(ag:List Ag):∀ (l:List ByteArray)(acc:List C),(jB iH ag acc l).1.length≤6
 | [],acc=>xY iH ag acc
 | s::r,acc=>by
   rw[jB]
   split
   ·simp[kQ]
   ·split
    ·simp[kQ]
    ·exact EF iH ag r _
theorem Vy {D:List DM} (hD:∀ d∈D,d.cols.length≤6)(k:Int)(nm:ByteArray)(ex:List E)(cols left right:List ByteArray)(ag:List Ag)(a b:List C)(ha:a.length≤6):(Lt D k nm ex cols left right ag a b).1.length≤6:=by
 unfold Lt
 split
 ·unfold Gp
  split
  ·simp[kQ]
  ·show (List.getD D _ _).cols.length≤6
   rw[List.getD_eq_getElem?_getD]
   cases h:D[(idx (DM.oM nm) D 0).toNat]? with
   | none=>simp
   | some d=>exact hD d (aN h)
 ·split
  ·exact ha
  ·split
   ·exact BQ _ _ _
   ·split
    ·exact SK _ _ _ _
    ·split
     ·exact aS (OL _ _) ha
     ·split
      ·exact EF _ _ _ _
      ·exact ha
theorem Lu {D:List DM} (hD:∀ d∈D,d.cols.length≤6):∀ p,(gK D p).1.length≤6:=P.ind fun k nm ex cols left right ag kids ih=>by
 rw[gK,pW,BP]
 split
 ·simp
 ·refine Vy hD _ _ _ _ _ _ _ _ _ ?_
  unfold wZ
  rw[List.getD_eq_getElem?_getD,bP]
  cases h:kids[0]? with
  | none=>simp
  | some x=>exact ih x (aN h)
def Qz (w:World)(S:Nat→Prop)(us:List Value)(ks:List (List C)):Prop:=∀ (i:Nat)(k:List C),ks[i]?=some k→∃ (A:Option Addr)(c:Nat),us[i]?=some (Value.slice A k.length c)∧k.length≤c∧iY w S A k
theorem Qz.kept {w w':World} {S:Nat→Prop} {us:List Value} {ks:List (List C)} (h:Qz w S us ks)(hw:∀ k,S k→w'.heap[k]?=w.heap[k]?):Qz w' S us ks:=fun i k hk=>by
 obtain⟨A,c,h1,h2,h3⟩:=h i k hk
 exact⟨A,c,h1,h2,h3.kept hw⟩
theorem Qz.mono {w:World} {S S':Nat→Prop} {us:List Value} {ks:List (List C)} (h:Qz w S us ks)(hS:∀ k,S k→S' k):Qz w S' us ks:=fun i k hk=>by
 obtain⟨A,c,h1,h2,h3⟩:=h i k hk
 exact⟨A,c,h1,h2,h3.mono hS⟩
theorem Qz.snoc {w:World} {S:Nat→Prop} {us:List Value} {ks:List (List C)} (h:Qz w S us ks)(hl:us.length=ks.length) {A:Option Addr} {k:List C} {c:Nat} (hc:k.length≤c)(hk:iY w S A k):Qz w S (us++[.slice A k.length c]) (ks++[k]):=fun i x hx=>by
 rcases Nat.lt_trichotomy i ks.length with h1|h1|h1
 ·rw[List.getElem?_append_left h1] at hx
  rw[List.getElem?_append_left (by omega)]
  exact h i x hx
 ·subst h1
  rw[bK (aF _),Nat.sub_self] at hx
  obtain rfl:k=x:=by simpa using hx
  exact⟨A,c,by rw[bK (by omega),hl,Nat.sub_self];rfl,hc,hk⟩
 ·rw[List.getElem?_eq_none (by simp;omega)] at hx
  cases hx
theorem Vz {B n:Nat} {wr w4 w5:World} {v v':Value} {us:List Value} {ks:List (List C)} {A:Option Addr} {c:Nat} {k:List C} (hK:Qz wr (fun g=>B≤g∧g<wr.heap.size∧v.ownBlock≠some g) us ks)(hl:us.length=ks.length)
 (hv:∀ g,v.ownBlock=some g→B≤g∧g<wr.heap.size)(h4:Below wr.heap.size wr w4)(hR:iY w4 (fun g=>wr.heap.size≤g∧g<w4.heap.size) A k)(hgrow:w4.grownBy w5 v.ownBlock)
 (hat:v'.ownBlock=v.ownBlock∨∃ n,v'.ownBlock=some n∧w4.heap.size≤n)(hs:w4.heap.size≤w5.heap.size)(hkc:k.length≤c)(hB:B≤wr.heap.size) :
 Qz w5 (fun g=>B≤g∧g<w5.heap.size∧v'.ownBlock≠some g) (us++[.slice A k.length c]) (ks++[k]):=by
 have hs4:=h4.size
 have hne:∀ g,g<w4.heap.size→v.ownBlock≠some g→v'.ownBlock≠some g:=fun g hg hn e=>by
  rcases hat with h|⟨n,h,hn⟩
  ·exact hn (h.symm.trans e)
  ·rw[h] at e
   have:=aY e
   omega
 have hnew:∀ g,wr.heap.size≤g→v.ownBlock≠some g:=fun g hg e=>by have:=(hv g e).2;omega
 refine Qz.snoc ?_ hl hkc ?_
 ·exact (hK.kept fun g hg=>(hgrow.block g (by omega) (fun e=>hg.2.2 e.symm)).trans (h4.block g hg.2.1)).mono fun g hg=>⟨hg.1,by omega,hne g (by omega) hg.2.2⟩
 ·exact (hR.kept fun g hg=>hgrow.block g hg.2 (fun e=>hnew g hg.1 e.symm)).mono fun g hg=>⟨by omega,by omega,hne g hg.2 (hnew g hg.1)⟩
theorem VA:(Tryz.prog.info? 29).map (fun i=>(i.zero,i.size,i.bytes))=some (some (.slice none 0 0),1,24):=by kernel_rfl
theorem Jk (tn nm:ByteArray)(c1:Option Addr)(n1 m1:Nat)(p:Nat) {x0 x2 x3 x4 x5 x6 x7:Value} (w:World)(h0:w.heap[p]?=some (.cells #[x0,.string nm,x2,x3,x4,x5,x6,x7] 27 (0,0))) :
 Calls Tryz.prog 45 #[.agg #[.string tn,.slice c1 n1 m1],.pointer (some ⟨p,0,none⟩)] w fun e w'=>e=.returned (.bool (tn.toList==nm.toList))∧w.alloc (.cells #[.string tn,.slice c1 n1 m1] 66)=w':=by
 have hp:=(aU.1 h0).1
 obtain⟨d0,d1,d2,d3,d4,d5,d6,d7,f0,f1,f2,f3,f4,f5,f6,f7⟩:=dO h0
 clear h0
 go_enter Tryz.func45,Tryz.ntmps45
 go_wp2
 go_ret
 exact⟨rfl,rfl⟩
theorem Gq (A:Option Addr)(c:Nat)(l:List DM)(nm:ByteArray)(pb:Nat)(w:World) {x0 x2 x3 x4 x5 x6 x7:Value} {S:Nat→Prop} (hA:mf w S A l)(hS:∀ k,S k→k<w.heap.size)(hl:l.length≤1073741824)(hP:w.heap[pb]?=some (.cells #[x0,.string nm,x2,x3,x4,x5,x6,x7] 27 (0,0))) :
 Calls Tryz.prog 44 #[.slice A l.length c,.func (.func 45) #[] #[.pointer (some ⟨pb,0,none⟩)]] w fun e w'=>e=.returned (.int .i64 (idx (DM.oM nm) l 0))∧Below w.heap.size w w':=by
 obtain⟨n,hn⟩:∃ n,l.length=n:=⟨_,rfl⟩
 have HN:=ae hn
 have HA:=ae hA
 have HS:=ae hS
 have hp:=(aU.1 hP).1
 have H0:=ae hP
 rw[hn] at hl ⊢
 clear hA hS hn hP
 go_enter Tryz.func44,Tryz.ntmps44
 go_wp2_with fail
 go_loopw [8] (fun i wr=>∃ k:Nat,k≤n∧i=.int .i64 k∧Below w.heap.size w wr∧Hid (idx (DM.oM nm) l 0=idx (DM.oM nm) (l.drop k) k)) (fun i _=>n-(intOf i).toNat)
 case atStart=>exact⟨0,aX _,rfl,aG _ _,ae (by simp)⟩
 case round =>
  obtain⟨k,hk,rfl,hb,HL⟩:=hrel
  have HB:=ae hb
  have hs:=hb.size
  clear hb
  by_cases hlt:k<n
  ·obtain⟨x,hx⟩:∃ x,l[k]?=some x:=⟨_,aO (by rw[HN.o];exact hlt)⟩
   obtain⟨b1,agu,rfl,_,hc1,hc2⟩:=(HA.o.below HB.o HS.o).get hx
   have hq:=ae (Jk x.nm nm x.cA x.cols.length x.cc pb wr ((HB.o.block _ hp).trans H0.o))
   have HD:=ae (HL.o.trans (nz (p:=DM.oM nm) hx))
   rw[show DM.oM nm x=(x.nm.toList==nm.toList) from rfl] at HD
   generalize (x.nm.toList==nm.toList)=z at hq HD
   obtain⟨xn,cA,cc,cl⟩:=x
   dsimp only at hc1 hc2 hq
   generalize cl.length=n1 at hc2 hq
   clear hx HL
   cases z
   ·go_wp2_with fail
    refine hq.o.mono ?_
    rintro e w3 ⟨rfl,rfl⟩
    have P6:Hid (idx (DM.oM nm) l 0=idx (DM.oM nm) (l.drop (k+1)) (k+1)):=ae (by rw[HD.o];rfl)
    clear HD
    go_wp2_with fail
    go_roundw
    case rel=>exact⟨k+1,by omega,by go_num,HB.o.alloc hs _,P6⟩
    case measure=>simp[intOf];omega
   ·go_wp2_with fail
    refine hq.o.mono ?_
    rintro e w3 ⟨rfl,rfl⟩
    have HF:Hid (idx (DM.oM nm) l 0=(k:Int)):=ae (by rw[HD.o];rfl)
    clear HD
    go_wp2_with fail
    go_ret
    exact⟨by rw[HF.o];rfl,HB.o.alloc hs _⟩
  ·obtain rfl:k=n:=by omega
   have HF:Hid (idx (DM.oM nm) l 0=-1):=ae (by
    rw[HL.o,bW (by rw[HN.o];exact aF _)]
    rfl)
   go_wp2_with fail
   go_ret
   exact⟨by rw[HF.o];rfl,HB.o⟩
inductive jS:P→Prop
 | mk (k:Int)(nm:ByteArray)(ex:List E)(cols left right:List ByteArray)(ag:List Ag)(kids:List P)(h1:1≤k)(h7:k≤7)(hm:∀ e∈ex,E.Fine e∧qC e)(hx:k=2→ex.length=1)(h3:k=3→cols.length=ex.length)
    (hc:cols.length≤ex.length)(hn:∀ x∈cols,nameB x=true)(hg:∀ g∈ag,nameB g.nm=true)(hkn:kids.length=dY k)
    (hs:∀ x∈left++right,x.size≤600)(ll:left.length≤600)(lr:right.length≤600)(le:ex.length≤600)(la:ag.length≤600)(hk:∀ p∈kids,jS p):jS (.mk k nm ex cols left right ag kids)
theorem VB:∀ p,jS p→TxP p:=P.ind fun k nm ex cols left right ag kids ih h=>by
 obtain⟨_,_,_,_,_,_,_,_,h1,h7,hm,hx,h3,hc,hn,hg,hkn,hs,ll,lr,le,la,hk⟩:=h
 refine .mk _ _ _ _ _ _ _ _ h1 h7 hm hc hx (fun e=>?_) hs ll lr le la ?_ (fun p hp=>ih p hp (hk p hp))
 ·subst e
  exact bF (by rw[hkn];rfl)
 ·rw[hkn];unfold dY;repeat' split
  all_goals omega
theorem Io:∀ p,jS p→BN p:=P.ind fun k nm ex cols left right ag kids ih h=>by
 obtain⟨_,_,_,_,_,_,_,_,h1,h7,hm,hx,h3,hc,hn,hg,hkn,hs,ll,lr,le,la,hk⟩:=h
 exact .mk _ _ _ _ _ _ _ _ h1 h7 (fun e he=>(hm e he).2) hc (fun p hp=>ih p hp (hk p hp))
theorem Ip:∀ p,jS p→Ee p:=P.ind fun k nm ex cols left right ag kids ih h=>by
 obtain⟨_,_,_,_,_,_,_,_,h1,h7,hm,hx,h3,hc,hn,hg,hkn,hs,ll,lr,le,la,hk⟩:=h
 refine .mk _ _ _ _ _ _ _ _ le (by omega) ll lr la ?_ (fun p hp=>ih p hp (hk p hp))
 rw[hkn];unfold dY;repeat' split
 all_goals omega
theorem VY (w:World)(p:P)(a:PA):(w.alloc (.cells (p.bx a) 27)).heap[w.heap.size]?=some (.cells (p.bx a) 27 (0,0)):=aH w _
theorem QD (w:World)(p:P)(a:PA):Below w.heap.size w (w.alloc (.cells (p.bx a) 27)):=(aG _ _).alloc (aF _) _
theorem Jv {p:P} (hm:BN p)(hf:Ee p)(hp:uG (fD p))(hs:(uN p).size≤1000000)(hr:mY (uN p)=(p,0,0))(a:PA)(w:World)(hA:kY w (LT w) p a)(hE:Env w) :
 Calls Tryz.prog 17 #[p.val a] w fun e w'=>e=.returned (.string (uN p))∧Below w.heap.size w w':=by
 obtain⟨w1,dZ⟩:∃ w1,w1=w.alloc (.cells (p.bx a) 27):=⟨_,rfl⟩
 have hb1:Below w.heap.size w w1:=by rw[dZ];exact QD w p a
 have hx1:w1.heap[w.heap.size]?=some (.cells (p.bx a) 27 (0,0)):=by rw[dZ];exact VY w p a
 have hA1:=hA.low hb1
 have hE1:=hE.low hb1
 have htr:=AX p hm hf a w1 hA1
 have FT:=ae (fun A' c' w' (hw:Below w1.heap.size w1 w')(h1:(fD p).kids.length≤c')(h2:fA w' w'.heap.size A' (fD p).kids)=>print_any (fD p) hp A' c' w' h1 h2 (hE1.low hw).pow)
 have Js:=ae (fun w' (hw:Below w1.heap.size w1 w')=>Ju (uN p) hs w' (hE1.low hw))
 rw[hr] at Js
 have Yh:=ae (fun b w' (hw:Below w1.heap.size w1 w')(hb:kY w' (LT w') p b)=>OY p a b w' (hA1.low hw) hb)
 have hps:Hid ((⟨(jr (fD p)).toArray⟩:ByteArray)=uN p):=ae rfl
 rw[hps.o] at FT
 have hz:w.heap.size<w1.heap.size:=(aU.1 hx1).1
 have HB1:=ae hb1
 have HW1:=ae dZ
 have jJ:=ae hx1
 generalize uN p=pp at *
 generalize fD p=tp at *
 obtain⟨uk,us,un,ul,uo⟩:=tp
 simp only[T.val,T.k,T.s,T.n,T.kids,T.at_] at FT
 clear hm hf hp hs hr hA hE hb1 hx1 hA1 hE1 dZ
 simp only[P.val,P.bx,zK] at htr Js Yh HW1 jJ ⊢
 have IP:=ae htr
 clear htr
 obtain⟨z0,z1,z2,z3,z4,z5,z6,z7,_,_,_,_,_,_,_,_⟩:=dO jJ.o
 go_enter Tryz.func17,Tryz.ntmps17
 go_upto_region 1 with (fail)
 rw[←HW1.o]
 go_wp2_with fail
 refine (IP.o).mono ?_
 rintro e w2 ⟨⟨A7,c7,rfl,Qn,Qo⟩,hb2⟩
 have HB2:=ae hb2
 have lG:=ae (FT.o A7 c7 w2 hb2 Qn (Qo.to fun k hk=>hk.2))
 simp only[T.val,T.k,T.s,T.n,T.kids,T.at_]
 clear hb2 Qo Qn
 go_wp2_with fail
 refine (lG.o).mono ?_
 rintro e w3 ⟨rfl,hb3⟩
 have HB3:=ae (HB2.o.trans (hb3.mono HB2.o.size))
 clear hb3
 go_wp2_with fail
 refine (Js.o w3 HB3.o).mono ?_
 rintro e w4 ⟨⟨b,rfl,hP4⟩,hb4⟩
 simp only[P.val]
 have HB4:=ae (HB3.o.trans (hb4.mono HB3.o.size))
 obtain⟨w5,yx⟩:∃ w5,w5=w4.alloc (.cells #[.int .i64 p.k,.string p.nm,.slice b.ea p.ex.length b.ec,.slice b.ca p.cols.length b.cc,.slice b.la p.left.length b.lc,.slice b.ra p.right.length b.rc,.slice b.ga p.ag.length b.gc,.slice b.ka p.kids.length b.kc] 27):=⟨_,rfl⟩
 have hb5:Below w4.heap.size w4 w5:=by rw[yx];exact (aG _ _).alloc (aF _) _
 have hx5:w5.heap[w4.heap.size]?=some (.cells #[.int .i64 p.k,.string p.nm,.slice b.ea p.ex.length b.ec,.slice b.ca p.cols.length b.cc,.slice b.la p.left.length b.lc,.slice b.ra p.right.length b.rc,.slice b.ga p.ag.length b.gc,.slice b.ka p.kids.length b.kc] 27 (0,0)):=by rw[yx];exact aH w4 _
 have jA:=ae (HB4.o.trans (hb5.mono HB4.o.size))
 have hsm:=Yh.o b w5 jA.o ((hP4.mono (S':=LT w4) fun k hk=>hk.2).low hb5)
 have HS:=ae hsm
 have Ue:=ae yx
 clear hb4 hb5 hP4 yx hsm z0 z1 z2 z3 z4 z5 z6 z7
 obtain⟨z0,z1,z2,z3,z4,z5,z6,z7,_,_,_,_,_,_,_,_⟩:=dO ((jA.o.block _ hz).trans jJ.o)
 obtain⟨y0,y1,y2,y3,y4,y5,y6,y7,_,_,_,_,_,_,_,_⟩:=dO hx5
 go_upto_region 3 with (fail)
 rw[←Ue.o]
 go_wp2_with fail
 refine (HS.o).mono ?_
 rintro e w6 ⟨rfl,hb6⟩
 have kD:=ae (HB1.o.trans ((jA.o.trans (hb6.mono jA.o.size)).mono HB1.o.size))
 clear hb6
 go_wp2_with fail
 go_ret
 exact⟨rfl,kD.o⟩
theorem ng {c:C} (hn:nameB c.nm=true)(hk:mO c.k=true):∀ (l pre:List C),gp pre l=0→fO (pre++l) c.nm=false→gp pre (l++[c])=0
 | [],pre,_,hf=>by
   rw[List.append_nil] at hf
   show gp pre [c]=0
   rw[gp,if_neg (by simp[hn,hk]),if_neg (by rw[hf];decide),gp]
 | x::l,pre,h,hf=>by
   rw[List.cons_append,gp]
   rw[gp] at h
   split at h
   ·exact absurd h (by decide)
   ·rename_i h1
    split at h
    ·exact absurd h (by decide)
    ·rename_i h2
     rw[if_neg h1,if_neg h2]
     exact ng hn hk l (pre++[x]) h (by rw[List.append_assoc];exact hf)
theorem rE {acc:List C} (h:gp [] acc=0)(ho:(gQ acc).2.1=0):jk (gQ acc).1=0:=by
 unfold gQ at ho ⊢
 split at ho
 ·exact absurd ho (by simp[kQ])
 ·rename_i hc
  rw[if_neg hc]
  show jk acc=0
  unfold jk
  rw[if_neg (by simp only[Bool.or_eq_true,decide_eq_true_eq];exact hc)]
  exact h
theorem xx {iH:List C} (hK:∀ e,(jf iH e).2=0→mO (jf iH e).1=true):∀ (l:List (ByteArray×E))(acc:List C),(∀ x∈l,nameB x.1=true)→gp [] acc=0→(iL iH acc l).2.1=0→jk (iL iH acc l).1=0
 | [],acc,_,h,ho=>by rw[iL] at ho ⊢;exact rE h ho
 | (c,e)::r,acc,hn,h,ho=>by
   rw[iL] at ho ⊢
   split at ho
   ·rename_i h0
    rw[if_pos h0]
    split at ho
    ·exact absurd ho (by simp[kQ])
    ·rename_i hf
     rw[if_neg hf]
     exact xx hK r _ (fun x hx=>hn x (bG _ hx)) (ng (hn _ (bH ..)) (hK e h0) acc [] h (by simpa using hf)) ho
   ·rename_i h0
    exact absurd ho h0
theorem wu {right:List ByteArray}:∀ (l acc:List C),(∀ x∈l,nameB x.nm=true∧mO x.k=true)→gp [] acc=0→(kE right acc l).2.1=0→jk (kE right acc l).1=0
 | [],acc,_,h,ho=>by rw[kE] at ho ⊢;exact rE h ho
 | c::r,acc,hn,h,ho=>by
   rw[kE] at ho ⊢
   split at ho
   ·rename_i h0
    rw[if_pos h0]
    exact wu r acc (fun x hx=>hn x (bG _ hx)) h ho
   ·rename_i h0
    rw[if_neg h0]
    split at ho
    ·exact absurd ho (by simp[kQ])
    ·rename_i hf
     rw[if_neg hf]
     have hc:=hn c (bH ..)
     exact wu r _ (fun x hx=>hn x (bG _ hx)) (ng hc.1 hc.2 acc [] h (by simpa using hf)) ho
theorem nY:∀ (l pre:List C),gp pre l=0→∀ x∈l,nameB x.nm=true∧mO x.k=true
 | [],_,_,x,hx=>by cases hx
 | c::l,pre,h,x,hx=>by
   rw[gp] at h
   split at h
   ·exact absurd h (by decide)
   ·rename_i h1
    split at h
    ·exact absurd h (by decide)
    ·rcases bZ.1 hx with rfl|hx
     ·simpa using h1
     ·exact nY l _ h x hx
theorem E8 {l:List C} (h:jk l=0):gp [] l=0:=by
 unfold jk at h
 split at h
 ·exact absurd h (by decide)
 ·exact h
theorem JD {a b:ByteArray} (h:a.toList=b.toList):a=b:=by
 rw[ByteArray.toList_eq,ByteArray.toList_eq] at h
 obtain⟨⟨x⟩⟩:=a
 obtain⟨⟨y⟩⟩:=b
 simp at h
 rw[h]
theorem JE {α:Type} {p:α→Bool}:∀ (l:List α)(k:Nat),0≤idx p l k→∃ (i:Nat)(x:α),idx p l k=((k+i:Nat):Int)∧l[i]?=some x∧p x=true
 | [],k,h=>absurd h (by unfold idx;decide)
 | x::l,k,h=>by
   unfold idx at h ⊢
   cases hp:p x
   ·rw[hp] at h
    obtain⟨i,y,h1,h2,h3⟩:=JE l (k+1) (by simpa using h)
    exact⟨i+1,y,by simp only[Bool.false_eq_true,if_false];rw[h1];congr 1;omega,h2,h3⟩
   ·exact⟨0,x,by simp,rfl,hp⟩
theorem Dq {l:List C} {s:ByteArray} (h:fO l s=true):kU l (gU l s)∈l∧(kU l (gU l s)).nm=s:=by
 unfold fO at h
 have h0:0≤idx (C.oM s) l 0:=by simpa using h
 obtain⟨j,x,h1,h2,h3⟩:=JE l 0 h0
 have e:gU l s=(j:Int):=by unfold gU;rw[if_pos h0,h1];simp
 have e2:kU l (gU l s)=x:=by
  unfold kU
  rw[e,Int.toNat_natCast,List.getD_eq_getElem?_getD,h2]
  rfl
 rw[e2]
 exact⟨aN h2,JD (eq_of_beq h3)⟩
theorem Fa {cols:List C}:∀ {l:List E},(∀ e∈l,(jC cols e).2=0→mO (jC cols e).1=true)→(jV cols l).2=0→∀ k∈(jV cols l).1,mO k=true
 | [],_,_,k,hk=>by rw[jV] at hk;cases hk
 | e::l,he,h,k,hk=>by
   rw[jV] at h hk
   split at h
   ·rename_i h0
    rw[if_pos h0] at hk
    rcases bZ.1 hk with rfl|hk
    ·exact he e (bH ..) h0
    ·exact Fa (fun x hx=>he x (bG _ hx)) h k hk
   ·rename_i h0
    exact absurd h h0
theorem JF {op:List UInt8} {l:List Int} (h:∀ k∈l,mO k=true)(h0:0<iU op l):mO (iU op l)=true:=by
 unfold iU at h0 ⊢
 split at h0
 ·rename_i c;rw[if_pos c];split at h0
  ·rename_i d;rw[if_pos d];rfl
  ·exact absurd h0 (by decide)
 ·rename_i c;rw[if_neg c]
  split at h0
  ·rename_i c;rw[if_pos c];split at h0
   ·rename_i d;rw[if_pos d];rfl
   ·exact absurd h0 (by decide)
  ·rename_i c;rw[if_neg c]
   split at h0
   ·rename_i c;rw[if_pos c];split at h0
    ·rename_i d;rw[if_pos d];rfl
    ·exact absurd h0 (by decide)
   ·rename_i c;rw[if_neg c]
    split at h0
    ·rename_i c;rw[if_pos c];split at h0
     ·rename_i d;rw[if_pos d];rw[List.getD_eq_getElem?_getD] at h0 ⊢
      cases hx:l[1]? with
      | none=>rw[hx] at h0;exact absurd h0 (by decide)
      | some x=>exact h x (aN hx)
     ·exact absurd h0 (by decide)
    ·rename_i c;rw[if_neg c];split at h0
     ·rename_i d;rw[if_pos d];rfl
     ·exact absurd h0 (by decide)
theorem PL {cols:List C} (hI:∀ x∈cols,mO x.k=true):∀ e,(jC cols e).2=0→mO (jC cols e).1=true:=E.ind fun k s n l ih h=>by
 rw[jC] at h ⊢
 by_cases h1:k=1
 ·rw[if_pos h1] at h ⊢
  cases hf:fO cols s
  ·rw[hf] at h;exact absurd h (by simp)
  ·rw[if_pos rfl]
   exact hI _ (Dq hf).1
 ·rw[if_neg h1] at h ⊢
  by_cases h2:k=2
  ·rw[if_pos h2];rfl
  ·rw[if_neg h2] at h ⊢
   by_cases h3:k=3
   ·rw[if_pos h3];rfl
   ·rw[if_neg h3] at h ⊢
    by_cases h4:(jV cols l).2=0
    ·rw[if_pos h4] at h ⊢
     by_cases h5:0<iU s.toList (jV cols l).1
     ·rw[if_pos h5]
      exact JF (Fa ih h4) h5
     ·rw[if_neg h5] at h
      exact absurd h (by simp)
    ·rw[if_neg h4] at h
     exact absurd h h4
theorem WB {cols:List C} (hI:∀ x∈cols,mO x.k=true)(e:E)(h:(jf cols e).2=0):mO (jf cols e).1=true:=by
 unfold jf at h ⊢
 split at h
 ·rename_i hm
  rw[if_pos hm]
  exact PL hI e h
 ·exact absurd h (by decide)
theorem uh {iH:List C} (hI:∀ x∈iH,nameB x.nm=true∧mO x.k=true):∀ (l:List Ag)(acc:List C),(∀ g∈l,nameB g.nm=true)→gp [] acc=0→(iW iH acc l).2.1=0→jk (iW iH acc l).1=0
 | [],acc,_,h,ho=>by rw[iW] at ho ⊢;exact rE h ho
 | g::r,acc,hn,h,ho=>by
   rw[iW] at ho ⊢
   have hg:=hn g (bH ..)
   have hr:∀ g∈r,nameB g.nm=true:=fun x hx=>hn x (bG _ hx)
   split at ho
   ·exact absurd ho (by simp[kQ])
   ·rename_i hf
    rw[if_neg hf]
    have hf':fO acc g.nm=false:=by simpa using hf
    split at ho
    ·rename_i hc
     rw[if_pos hc]
     exact uh hI r _ hr (ng hg rfl acc [] h hf') ho
    ·rename_i hc
     rw[if_neg hc]
     split at ho
     ·exact absurd ho (by simp[kQ])
     ·rename_i hq
      rw[if_neg hq]
      split at ho
      ·exact absurd ho (by simp[kQ])
      ·rename_i hs
       rw[if_neg hs]
       exact uh hI r _ hr (ng (c:=⟨g.nm,(kU iH (gU iH g.xH)).k⟩) hg (hI _ (Dq (by simpa using hq)).1).2 acc [] h hf') ho
theorem zQ {iH:List C} (hI:∀ x∈iH,nameB x.nm=true∧mO x.k=true) {ag:List Ag} (hag:∀ g∈ag,nameB g.nm=true):∀ (l:List ByteArray)(acc:List C),gp [] acc=0→(jB iH ag acc l).2.1=0→jk (jB iH ag acc l).1=0
 | [],acc,h,ho=>by rw[jB] at ho ⊢;exact uh hI ag acc hag h ho
 | s::r,acc,h,ho=>by
   rw[jB] at ho ⊢
   split at ho
   ·exact absurd ho (by simp[kQ])
   ·rename_i hq
    rw[if_neg hq]
    split at ho
    ·exact absurd ho (by simp[kQ])
    ·rename_i hf
     rw[if_neg hf]
     obtain⟨h1,h2⟩:=Dq (l:=iH) (s:=s) (by simpa using hq)
     exact zQ hI hag r _ (ng (hI _ h1).1 (hI _ h1).2 acc [] h (by rw[List.nil_append,h2];simpa using hf)) ho
end Go.Proofs.YtjhkihkiebnpaaaGreatDoor
