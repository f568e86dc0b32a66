/-
  Plans that are read of good trees: what their text and their checking ask. No program in sight.
-/
import Derived.Test.YtjhkihkiebnpaaaGreatDoorMk8
import Derived.Test.YtjhkihkiebnpaaaGreatDoorMk14
import Derived.Test.YtjhkihkiebnpaaaGreatDoorMk7
set_option linter.unusedVariables false
set_option linter.unusedSimpArgs false
set_option maxRecDepth 100000
set_option maxHeartbeats 40000000
namespace Go.Proofs.YtjhkihkiebnpaaaGreatDoor
open Go.RowKit
theorem Dz:∀ (l:List T)(s:eY),(bM l 0 s).2.1=0→(bM l 0 s).1=l.map fun t=>(aX t s).1
 | [],s,_=>by rw [bM];rfl
 | x::l,s,h=>by
   rw [bM] at h ⊢
   simp only at h ⊢
   have h1:=(lH l (fun t _=>gW t) _ h).1
   have h2:(aX x s).2.1=0:=by rw [←h1];exact h
   have h3:=(gW x s h2).1
   rw [h3] at h ⊢
   rw [Dz l s h,List.map_cons]
theorem zL {l:List T} (h:∀ e∈l,T.Good e)(i:Nat):T.Good (l.getD i aH):=by
 rw [List.getD_eq_getElem?_getD]
 cases hx:l[i]? with
 | none=>exact Qn
 | some x=>exact h x (anq hx)
theorem U3 {t:T} (hg:t.Good)(hr:(aI t).2.1=0):E.Fine (aI t).1∧nD (aI t).1:=⟨(QA t hg).1,(rV t hr).2.2⟩
theorem DC {l:List T} (h:∀ e∈l,T.Good e):∀ x∈l.map T.s,x.size≤600:=fun x hx=>by
 obtain ⟨t,ht,rfl⟩:=List.mem_map.1 hx
 exact wB (h t ht)
theorem aaB {t:T} {s:eY} (h:(rG t s).1=0):rG t s=s∧nameB (t.kids.getD 0 aH).s=true:=by
 have h0:=(Oi h).1
 refine ⟨h0,?_⟩
 unfold rG at h
 obtain ⟨h1,h2⟩:=xO h
 rw [h1] at h
 exact (lU h).2
theorem aaC {l:List T} {s:eY} (h:(mg l s).1=0):mg l s=s∧nameB (l.getD 0 aH).s=true:=by
 refine ⟨(Oh h).1,?_⟩
 have h1:(lN l s).1=0:=by
  unfold mg at h
  split at h
  ·have:=(lU h).1;rw [this] at h;exact h
  ·exact h
 unfold lN at h1
 split at h1
 ·exact (lU h1).2
 ·exact absurd h1 (xN (by decide) _ _)
theorem NL:∀ t:T,t.Good→(aX t (0,0)).2.1=0→fH (aX t (0,0)).1:=T.ind fun k s n l a ih hg h=>by
 obtain ⟨_,_,_,_,_,_,_,_,_,xH,hgk⟩:=hg
 rw [aX] at h ⊢
 simp only at h ⊢
 have hall:=xP (iR (.mk k s n l a)).toList l
 rw [show bY (iR (.mk k s n l a)).toList l=fA (.mk k s n l a) from rfl] at hall
 generalize fA (.mk k s n l a)=kd at *
 rw [jg] at h ⊢
 obtain ⟨h1,_,_⟩:=lH (l.drop (l.length-aJ kd)) (fun t _=>gW t) _ h
 have h':=h
 rw [h1] at h'
 obtain ⟨b1,b2,b3,b4,b5,b6⟩:=Ci h'
 have hbr:=h'
 rw [b1] at h ⊢
 have hpl:=CV _ _ h
 rw [Dz _ _ h]
 have hkids:∀ p∈(l.drop (l.length-aJ kd)).map (fun t=>(aX t (0,0)).1),fH p:=fun p hp=>by
  obtain ⟨t,ht,rfl⟩:=List.mem_map.1 hp
  have Yz:=List.mem_of_mem_drop ht
  exact ih t Yz (hgk t Yz) (hpl t ht)
 have hlen:aJ kd≤l.length→((l.drop (l.length-aJ kd)).map (fun t=>(aX t (0,0)).1)).length=aJ kd:=fun h=>by rw [List.length_map,List.length_drop];omega
 have hg1:=zL hgk 1
 have hg2:=zL hgk 2
 have hmid:∀ i t,t∈bT l i→T.Good t:=fun i t ht=>hgk t (List.mem_of_mem_drop (List.mem_of_mem_take ht))
 have hml:∀ i,(bT l i).length≤600:=fun i=>by unfold bT;rw [List.length_take,List.length_drop];omega
 rcases hall with e | ⟨e,hw,hl,ha⟩ | ⟨e,hw,hl⟩ | ⟨e,hw,hl,ha⟩ | ⟨e,hw,hl,ha,hb⟩ | ⟨e,hw,hl⟩ | ⟨e,hw,hl⟩ | ⟨e,hw,hl,ha,hb⟩
 ·omega
 ·subst e
  show fH (.mk 1 (l.getD 1 aH).s [] [] [] [] [] _)
  exact .mk _ _ _ _ _ _ _ _ (by decide) (by decide) (fun e he=>by cases he) (fun e=>by simp at e) (fun e=>by simp at e) (by simp) (fun x hx=>by cases hx) (fun x hx=>by cases hx) (hlen (by show 0≤_;omega)) (fun x hx=>by cases hx) (by simp) (by simp) (by simp) (by simp) hkids
 ·subst e
  show fH (.mk 2 ⟨#[]⟩ [(aI (l.getD 1 aH)).1] [] [] [] [] _)
  refine .mk _ _ _ _ _ _ _ _ (by decide) (by decide) (fun e he=>?_) (fun e=>rfl) (fun e=>by simp at e) (by simp) (fun x hx=>by cases hx) (fun x hx=>by cases hx) (hlen (by show 1≤_;omega)) (fun x hx=>by cases hx) (by simp) (by simp) (by simp) (by simp) hkids
  obtain rfl:e=(aI (l.getD 1 aH)).1:=by simpa using he
  exact U3 hg1 (b2 rfl)
 ·subst e
  show fH (.mk 3 ⟨#[]⟩ ((bT l 1).map uI) ((bT l 1).map lX) [] [] [] _)
  refine .mk _ _ _ _ _ _ _ _ (by decide) (by decide) (fun e he=>?_) (fun e=>by simp at e) (fun e=>by rw [List.length_map,List.length_map]) (by rw [List.length_map,List.length_map];exact ank _) (fun x hx=>?_) (fun x hx=>by cases hx) (hlen (by show 1≤_;omega)) (fun x hx=>by cases hx) (by simp) (by simp) (by rw [List.length_map];exact hml 1) (by simp) hkids
  ·obtain ⟨t,ht,rfl⟩:=List.mem_map.1 he
   exact U3 (zL (gX (hmid 1 t ht)).2 1) (b3 rfl t ht)
  ·obtain ⟨t,ht,rfl⟩:=List.mem_map.1 hx
   exact (uA rG (fun t=>nameB (t.kids.getD 0 aH).s=true) (fun s t h=>aaB h) _ _ hbr).2 t ht
 ·subst e
  show fH (.mk 4 ⟨#[]⟩ [] [] ((l.getD 1 aH).kids.map T.s) ((l.getD 2 aH).kids.map T.s) [] _)
  refine .mk _ _ _ _ _ _ _ _ (by decide) (by decide) (fun e he=>by cases he) (fun e=>by simp at e) (fun e=>by simp at e) (by simp) (fun x hx=>by cases hx) (fun x hx=>by cases hx) (hlen (by show 2≤_;omega)) (fun x hx=>?_) ?_ ?_ (by simp) (by simp) hkids
  ·rcases List.mem_append.1 hx with hx | hx
   ·exact DC (gX hg1).2 x hx
   ·exact DC (gX hg2).2 x hx
  ·rw [List.length_map];exact (gX hg1).1
  ·rw [List.length_map];exact (gX hg2).1
 ·subst e
  show fH (.mk 5 ⟨#[]⟩ [] [] [] [] [] _)
  exact .mk _ _ _ _ _ _ _ _ (by decide) (by decide) (fun e he=>by cases he) (fun e=>by simp at e) (fun e=>by simp at e) (by simp) (fun x hx=>by cases hx) (fun x hx=>by cases hx) (hlen (by show 2≤_;omega)) (fun x hx=>by cases hx) (by simp) (by simp) (by simp) (by simp) hkids
 ·subst e
  show fH (.mk 6 ⟨#[]⟩ [] [] [] [] [] _)
  exact .mk _ _ _ _ _ _ _ _ (by decide) (by decide) (fun e he=>by cases he) (fun e=>by simp at e) (fun e=>by simp at e) (by simp) (fun x hx=>by cases hx) (fun x hx=>by cases hx) (hlen (by show 1≤_;omega)) (fun x hx=>by cases hx) (by simp) (by simp) (by simp) (by simp) hkids
 ·subst e
  show fH (.mk 7 ⟨#[]⟩ [] [] ((l.getD 1 aH).kids.map T.s) [] ((bT l 2).map nG) _)
  refine .mk _ _ _ _ _ _ _ _ (by decide) (by decide) (fun e he=>by cases he) (fun e=>by simp at e) (fun e=>by simp at e) (by simp) (fun x hx=>by cases hx) (fun g hg=>?_) (hlen (by show 1≤_;omega)) (fun x hx=>?_) ?_ (by simp) (by simp) (by rw [List.length_map];exact hml 2) hkids
  ·obtain ⟨t,ht,rfl⟩:=List.mem_map.1 hg
   have hag:(l7 (bT l 2) (dY (l.getD 1 aH).kids (0,0))).1=0:=hbr
   exact (uA (fun t s=>mg t.kids s) (fun t=>nameB (t.kids.getD 0 aH).s=true) (fun s t h=>aaC h) _ _ hag).2 t ht
  ·rw [List.append_nil] at hx
   exact DC (gX hg1).2 x hx
  ·rw [List.length_map];exact (gX hg1).1
def yz (st:List T):Bool:=decide (st.length=1)&&decide (0<(st.getD 0 jB).kids.length)
def U4 (st:List T)(i:Nat)(x:T):List T:=match st[i]? with
 | some (.mk k s n l a)=>st.set i (.mk k s n (l++[x]) a)
 | none=>st
def JZ (s:ByteArray):Nat→Nat→Nat
 | 0,k=>k
 | f+1,k=>if h:k<s.size then (if nI s[k]=true then JZ s f (k+1) else k) else k
def mM (s:ByteArray):Nat→Nat→List T→Option (Option T)
 | 0,_,_=>none
 | f+1,j,st =>
   if h:j<s.size then
    if ((s[j].toNat:Int)==32)=true then mM s f (j+1) st
    else if ((s[j].toNat:Int)==10)=true then mM s f (j+1) st
    else if ((s[j].toNat:Int)==41)=true then (if st.length≤1 then some none else mM s f (j+1) ((U4 st (st.length-2) (st.getD (st.length-1) jB)).take (st.length-1)))
    else if yz st=true then some none
    else if ((s[j].toNat:Int)==40)=true then (if 13≤st.length then some none else mM s f (j+1) (st++[.mk 1 ⟨#[]⟩ 0 [] (j:Int)]))
    else if nI s[j]=true then mM s f (JZ s 600 j) (U4 st (st.length-1) (.mk 2 (s.extract j (JZ s 600 j)) 0 [] (j:Int)))
    else none
   else if st.length=1 then some (st.getD 0 jB).kids[0]? else some none
def XF (s:ByteArray):Option (Option T):=if s.size≤600 then mM s 700 0 [jB] else none
def oN (s:ByteArray)(j:Nat)(ps:List TP):Prop:=∀ r,XF s=some (some r)→∃ f,mM s f j (ps.map Prod.fst)=some (some r)
def QY (s:ByteArray):Prop:=∀ r,XF s≠some (some r)
section
variable {s:ByteArray} {j j':Nat} {ps ps':List TP}
theorem oN.start (hs:s.size≤600):oN s 0 [(jB,none,0)]:=fun r h=>⟨700,by rw [XF,if_pos hs] at h;exact h⟩
theorem oN.go (h:oN s j ps)(he:∀ f,mM s (f+1) j (ps.map Prod.fst)=mM s f j' (ps'.map Prod.fst)):oN s j' ps':=fun r hr=>by
 obtain ⟨f,hf⟩:=h r hr
 cases f with
 | zero=>rw [mM] at hf;cases hf
 | succ f=>exact ⟨f,by rw [←he];exact hf⟩
theorem oN.no (h:oN s j ps)(he:∀ f r,mM s (f+1) j (ps.map Prod.fst)≠some (some r)):QY s:=fun r hr=>by
 obtain ⟨f,hf⟩:=h r hr
 cases f with
 | zero=>rw [mM] at hf;cases hf
 | succ f=>exact he f r hf
theorem oN.vac (h:QY s):oN s j ps:=fun r hr=>absurd hr (h r)
theorem oN.agP (h:oN s j ps)(hlt:j<s.size)(h1:((s[j].toNat:Int)==32)=true):oN s (j+1) ps:=h.go fun f=>by rw [mM,dif_pos hlt,if_pos h1]
theorem oN.agQ (h:oN s j ps)(hlt:j<s.size)(h1:((s[j].toNat:Int)==32)=false)(h2:((s[j].toNat:Int)==10)=true):oN s (j+1) ps:=h.go fun f=>by
 rw [mM,dif_pos hlt,if_neg (by rw [h1];decide),if_pos h2]
theorem J3 {i:Nat} {tk tn ta:Int} {ts:ByteArray} {tl:List T} {A0 A1:Option Addr} {c0 c1:Nat} {x:T} (hp:ps[i]?=some ((.mk tk ts tn tl ta:T),A0,c0)) :
 (ps.set i ((.mk tk ts tn (tl++[x]) ta:T),A1,c1)).map Prod.fst=U4 (ps.map Prod.fst) i x:=by
 unfold U4
 rw [List.getElem?_map,hp,List.map_set]
 rfl
theorem getD_map {i:Nat} {p:TP} (hp:ps[i]?=some p):(ps.map Prod.fst).getD i jB=p.1:=by
 rw [List.getD_eq_getElem?_getD,List.getElem?_map,hp]
 rfl
structure NC (s:ByteArray)(j:Nat)(hlt:j<s.size):Prop where
 a:((s[j].toNat:Int)==32)=false
 b:((s[j].toNat:Int)==10)=false
 c:((s[j].toNat:Int)==41)=false
theorem yA {hlt:j<s.size} (h:NC s j hlt)(f:Nat)(st:List T):mM s (f+1) j st=if yz st=true then some none
 else if ((s[j].toNat:Int)==40)=true then (if 13≤st.length then some none else mM s f (j+1) (st++[.mk 1 ⟨#[]⟩ 0 [] (j:Int)]))
 else if nI s[j]=true then mM s f (JZ s 600 j) (U4 st (st.length-1) (.mk 2 (s.extract j (JZ s 600 j)) 0 [] (j:Int)))
 else none:=by
 rw [mM,dif_pos hlt,if_neg (by rw [h.a];decide),if_neg (by rw [h.b];decide),if_neg (by rw [h.c];decide)]
theorem oN.close {m m1 mt:Nat} {tk tn ta:Int} {ts:ByteArray} {tl:List T} {A0 A1:Option Addr} {c0 c1:Nat} {x:TP} (h:oN s j ps)(hlt:j<s.size)(h1:((s[j].toNat:Int)==32)=false)(h2:((s[j].toNat:Int)==10)=false)(h3:((s[j].toNat:Int)==41)=true)
 (hl:ps.length=m)(hm:m=m1+2∧mt=m1+1)(hp:ps[m1]?=some ((.mk tk ts tn tl ta:T),A0,c0))(hx:ps[mt]?=some x):oN s (j+1) ((ps.set m1 ((.mk tk ts tn (tl++[x.1]) ta:T),A1,c1)).take mt):=h.go fun f=>by
 obtain ⟨rfl,rfl⟩:=hm
 rw [mM,dif_pos hlt,if_neg (by rw [h1];decide),if_neg (by rw [h2];decide),if_pos h3,List.length_map,hl,if_neg (by omega),List.map_take,J3 hp,show m1+2-1=m1+1 from rfl,show m1+2-2=m1 from rfl,getD_map hx]
theorem oN.U5 {m:Nat} (h:oN s j ps)(hlt:j<s.size)(h1:((s[j].toNat:Int)==32)=false)(h2:((s[j].toNat:Int)==10)=false)(h3:((s[j].toNat:Int)==41)=true)(hl:ps.length=m)(hm:m≤1):QY s:=h.no fun f r=>by
 rw [mM,dif_pos hlt,if_neg (by rw [h1];decide),if_neg (by rw [h2];decide),if_pos h3,List.length_map,hl,if_pos hm]
 intro h;cases h
theorem oN.open {hlt:j<s.size} (h:oN s j ps)(hn:NC s j hlt)(ht:false=yz (ps.map Prod.fst))(h4:((s[j].toNat:Int)==40)=true)(hl:ps.length≤12) {A:Option Addr} {c:Nat}:oN s (j+1) (ps++[((.mk 1 ⟨#[]⟩ 0 [] (j:Int):T),A,c)]):=h.go fun f=>by
 rw [yA hn,if_neg (by rw [←ht];decide),if_pos h4,List.length_map,if_neg (by omega),List.map_append]
 rfl
theorem oN.XG {hlt:j<s.size} (h:oN s j ps)(hn:NC s j hlt)(h4:((s[j].toNat:Int)==40)=true)(hl:13≤ps.length):QY s:=h.no fun f r=>by
 rw [yA hn]
 split
 ·intro h;cases h
 ·first
   | rw [if_pos h4,List.length_map,if_pos hl]
   | rw [List.length_map,if_pos hl]
  intro h;cases h
theorem oN.XH {hlt:j<s.size} (h:oN s j ps)(hn:NC s j hlt)(ht:true=yz (ps.map Prod.fst)):QY s:=h.no fun f r=>by
 rw [yA hn,if_pos ht.symm]
 intro h;cases h
theorem oN.NM {hlt:j<s.size} (h:oN s j ps)(hn:NC s j hlt)(h4:((s[j].toNat:Int)==40)=false)(hl:nI s[j]=false):QY s:=h.no fun f r=>by
 rw [yA hn]
 split
 ·intro h;cases h
 ·rw [if_neg (by rw [h4];decide),if_neg (by rw [hl];decide)]
  intro h;cases h
theorem OO {i:Nat}:∀ (f k:Nat),k≤i→i≤s.size→i≤k+f→(∀ q (hq:q<s.size),k≤q→q<i→nI s[q]=true)→(∀ hi:i<s.size,nI s[i]=false)→JZ s f k=i
 | 0,k,h1,h2,h3,_,_=>by rw [JZ];omega
 | f+1,k,h1,h2,h3,h4,h5=>by
   rw [JZ]
   rcases Nat.lt_or_ge k i with h | h
   ·have hk:k<s.size:=by omega
    rw [dif_pos hk,if_pos (h4 k hk (ank _) h)]
    exact OO f (k+1) h h2 (by omega) (fun q hq a b=>h4 q hq (by omega) b) h5
   ·obtain rfl:k=i:=by omega
    split
    ·next hk=>rw [if_neg (by rw [h5 hk];decide)]
    ·rfl
theorem oN.leaf {hlt:j<s.size} {m1 i:Nat} {tk tn ta k n a why:Int} {ts x:ByteArray} {tl:List T} {A0 A1:Option Addr} {c0 c1:Nat} (h:oN s j ps)(hn:NC s j hlt)(hs:s.size≤600)(ht:false=yz (ps.map Prod.fst))(h4:((s[j].toNat:Int)==40)=false)
 (hl:ps.length=m1+1)(hp:ps[m1]?=some ((.mk tk ts tn tl ta:T),A0,c0))(hw:TU s j k n a why x i)(hi:i≤s.size):oN s i (ps.set m1 ((.mk tk ts tn (tl++[(.mk k x n [] a:T)]) ta:T),A1,c1)):=by
 cases hb:nI s[j]
 ·exact .vac (h.NM hn h4 hb)
 ·obtain ⟨rfl,rfl,rfl,rfl,rfl,h5,h6,h7⟩:=hw hlt hb
  refine h.go fun f=>?_
  rw [yA hn,if_neg (by rw [←ht];decide),if_neg (by rw [h4];decide),if_pos hb,J3 hp,List.length_map,hl,OO 600 j h5 hi (by omega) h6 h7]
  rfl
theorem oN.XI {hlt:j<s.size} {i:Nat} {k n a why:Int} {x:ByteArray} (h:oN s j ps)(hn:NC s j hlt)(h4:((s[j].toNat:Int)==40)=false)(hw:TU s j k n a why x i)(hy:why≠0):QY s:=by
 cases hb:nI s[j]
 ·exact h.NM hn h4 hb
 ·exact absurd (hw hlt hb).2.2.2.2.1 hy
theorem oN.end_ {tk tn ta:Int} {ts:ByteArray} {tl:List T} {A0:Option Addr} {c0:Nat} {x:T} (h:oN s j ps)(hlt:¬j<s.size)(hl:ps.length=1)(hp:ps[0]?=some ((.mk tk ts tn (x::tl) ta:T),A0,c0))(r:T)(hr:XF s=some (some r)):x=r:=by
 obtain ⟨f,hf⟩:=h r hr
 cases f with
 | zero=>rw [mM] at hf;cases hf
 | succ f =>
   rw [mM,dif_neg hlt,List.length_map,if_pos hl,getD_map hp] at hf
   exact Option.some.inj (Option.some.inj hf)
theorem oN.XJ {tk tn ta:Int} {ts:ByteArray} {A0:Option Addr} {c0:Nat} (h:oN s j ps)(hlt:¬j<s.size)(hl:ps.length=1)(hp:ps[0]?=some ((.mk tk ts tn [] ta:T),A0,c0)):QY s:=h.no fun f r=>by
 rw [mM,dif_neg hlt,List.length_map,if_pos hl,getD_map hp]
 intro h;cases h
theorem oN.XK (h:oN s j ps)(hlt:¬j<s.size)(hl:¬ps.length=1):QY s:=h.no fun f r=>by
 rw [mM,dif_neg hlt,List.length_map,if_neg hl]
 intro h;cases h
end
theorem QY.long {s:ByteArray} (h:¬s.size≤600):QY s:=fun r=>by
 rw [XF,if_neg h]
 intro h;cases h
theorem U7 {ps:List TP} {m:Nat} {p:TP} (hl:ps.length=m)(hp:ps[0]?=some p):yz (ps.map Prod.fst)=(decide (m=1)&&decide (0<p.1.kids.length)):=by
 rw [yz,List.length_map,hl,getD_map hp]
def J4 (s:ByteArray)(w:World)(e:Ending)(w':World):Prop:=∃ (t:T)(A:Option Addr)(c:Nat)(why at_:Int),e=.returned (.tuple #[t.val A c,.int .i64 why,.int .i64 at_])∧(t.Good∧t.Deep 13)∧t.kids.length≤c∧ku w' (fun k=>w.heap.size≤k∧k<w'.heap.size) A t.kids∧(∀ r,XF s=some (some r)→why=0∧t=r)
theorem gq {s:ByteArray} (hno:QY s)(w w':World)(why at_:Int):J4 s w (.returned (.tuple #[.agg #[.int .i64 0,.string ⟨#[]⟩,.int .i64 0,.slice none 0 0,.int .i64 0],.int .i64 why,.int .i64 at_])) w' :=
 ⟨jB,none,0,why,at_,rfl,⟨(CS 0).good (by decide),.leaf (by decide) _ _ _ _⟩,ank _,.nil _,fun r hr=>absurd hr (hno r)⟩
theorem jb {ops:Array Oper} {a:Act} {w:World} {K:Act→World→Prop} {Q:Exit→Act→World→Prop} {E:Prop} (o:Oper)(hg:o.guard=none)(x:Tmp)(ho:o.op=.buildSlice 84 1 #[(0,.tmp x)])
 (k n l:Int)(s:ByteArray)(A:Option Addr)(m c:Nat)(hv:a.eval (.tmp x)=.agg #[.int .i64 k,.string s,.int .i64 n,.slice A m c,.int .i64 l])
 (h:K (a.put o.dst (.slice (some ⟨w.heap.size,0,none⟩) 1 1)) (w.alloc (.cells #[.int .i64 k,.string s,.int .i64 n,.slice A m c,.int .i64 l] 86))) :
 if Region.wanted o (yielded ops a.tmps)=true then Oper.wp Tryz.prog o a w K Q else E:=by
 have hw:Region.wanted o (yielded ops a.tmps)=true:=by simp [Region.wanted,hg]
 rw [if_pos hw]
 have hv':a.tmps[x]?.getD undef=.agg #[.int .i64 k,.string s,.int .i64 n,.slice A m c,.int .i64 l]:=by simpa [Act.eval] using hv
 clear hv hw
 obtain ⟨d,op,ty,p,af,gd⟩:=o
 simp only at ho hg h
 subst ho hg
 go_simp
 exact h
theorem oq {ops:Array Oper} {a:Act} {w:World} {K:Act→World→Prop} {Q:Exit→Act→World→Prop} {E:Prop} (o:Oper)(hg:o.guard=none)(ho:o.op=.buildSlice 84 0 #[])
 (h:K (a.put o.dst (.slice (some ⟨w.heap.size,0,none⟩) 0 0)) (w.alloc (.cells #[] 86))) :
 if Region.wanted o (yielded ops a.tmps)=true then Oper.wp Tryz.prog o a w K Q else E:=by
 have hw:Region.wanted o (yielded ops a.tmps)=true:=by simp [Region.wanted,hg]
 rw [if_pos hw]
 clear hw
 obtain ⟨d,op,ty,p,af,gd⟩:=o
 simp only at ho hg h
 subst ho hg
 go_simp
 exact h
end Go.Proofs.YtjhkihkiebnpaaaGreatDoor
