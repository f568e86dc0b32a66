/-
  Package expr's apply: the refusals.
-/
import Derived.Test.YtjhkihkiebnpaaaGreatDoorMk0
import Derived.BigQuiet
import Derived.Maps.AppendAt
import Derived.Deep.AppendLies
import Derived.Deep.RegionLaw
import Derived.Deep.RegionHeld
import Derived.WalkKit
import Derived.WalkSpells
import Derived.Lib.Hide
import Derived.Below
import Derived.Laws.OwnMore
import Derived.Laws.Rows
import Derived.Deep.Draws
import Derived.RegionTactic
import Derived.OwnWalk
import Derived.Lib.ParseIntB
import Derived.Lib.Bytealg
set_option linter.unusedVariables false
set_option linter.unusedSimpArgs false
set_option maxRecDepth 100000
set_option maxHeartbeats 40000000
namespace Go.Proofs.YtjhkihkiebnpaaaGreatDoor
open Go.RowKit
def kJ (q:E×Int×Int)(w:World)(r:Ending)(w':World):Prop:=(∃ A' c',r=.returned (.tuple #[q.1.val A' c',.int .i64 q.2.1,.int .i64 q.2.2])∧gy w' (fun k=>w.heap.size≤k∧k < w'.heap.size) A' q.1.kids)∧Below w.heap.size w w'
theorem ED (s:ByteArray)(n:Int)(l:List T)(a:Int)(hbad:l=[]∨∃ x ks,l=x :: ks∧(x.k≠2∨dB x.s.toList=0))(A:Option Addr)(c:Nat)(w:World)(hA:bz w w.heap.size A l) :
 Calls Tryz.prog 141 #[.agg #[.int .i64 1,.string s,.int .i64 n,.slice A l.length c,.int .i64 a]] w (kJ (zeroE,12,a) w):=by
 obtain ⟨w1,aK⟩:∃ w1,w1=(w.alloc (.cells #[.int .i64 1,.string s,.int .i64 n,.slice A l.length c,.int .i64 a] 71)).alloc (.cells #[.int .i64 0,.string ⟨#[]⟩,.int .i64 0,.slice none 0 0] 38):=⟨_,rfl⟩
 have hb1:Below w.heap.size w w1:=by rw [aK];exact ((anl _ _).alloc (ank _) _).alloc (by simp) _
 have HB1:=anc hb1
 have hB:Hid (w1.heap[w.heap.size+1]?=some (.cells #[.int .i64 0,.string ⟨#[]⟩,.int .i64 0,.slice none 0 0] 38 (0,0))):=anc (by
  rw [aK]
  have:=anm (w.alloc (.cells #[.int .i64 1,.string s,.int .i64 n,.slice A l.length c,.int .i64 a] 71)) (.cells #[.int .i64 0,.string ⟨#[]⟩,.int .i64 0,.slice none 0 0] 38)
  simpa using this)
 have oD:Hid (w1.cell? ⟨w.heap.size,3,none⟩=some (.slice A l.length c)∧w1.cell? ⟨w.heap.size,4,none⟩=some (.int .i64 a)):=anc (by rw [aK];simp)
 have HW1:=anc aK
 have HA:=anc ((hA.low hb1).more hb1.size)
 clear aK hb1 hA
 rcases hbad with rfl | ⟨x,ks,rfl,hx⟩
 ·simp only [List.length_nil] at oD HW1 ⊢
  go_enter Tryz.func141,Tryz.ntmps141
  go_upto_region 1 with (fail)
  rw [← HW1.out]
  obtain ⟨⟨k0,k1,k2,k3⟩,f0,f1,f2,f3⟩:=bQ hB.out
  obtain ⟨d3,d4⟩:=oD.out
  go_wp2_with fail
  go_region
  go_wp2_with fail
  refine ano (aS rfl rfl rfl rfl (show ((nO w1 (w.heap.size+1) _ _ _ _).drew).heap[w.heap.size+1]?=_ from aZ hB.out)) rfl ?_
  exact ⟨⟨none,0,rfl,.nil _⟩,(bF HB1.out (Nat.le_succ _)).drew⟩
 ·obtain ⟨b,o,A',c',rfl,hlt,x0,x1,_,_,_,_,_⟩:=HA.out.cu w1 (anl _ _) 0 x rfl
  rw [Nat.zero_mul,Nat.add_zero] at x0 x1
  have hlen:(x :: ks).length≤9223372036854775807:=HA.out.len
  obtain ⟨m,em⟩:∃ m,m=ks.length:=⟨_,rfl⟩
  simp only [List.length_cons,← em] at oD HW1 hlen ⊢
  have hm0:(0:Int) < ((m+1:Nat):Int):=by omega
  have hm1:(((m+1:Nat):Int) == 0)=false:=by simp;omega
  obtain ⟨xk,xs,xn,xl,xa⟩:=x
  simp only [T.k,T.s] at x0 x1 hx
  have hC:=anc (count_any xs w1)
  clear HA em
  by_cases hk:xk=2
  ·subst hk
   have hc0:dB xs.toList=0:=by
    rcases hx with hx | hx
    ·exact absurd rfl hx
    ·exact hx
   rw [hc0] at hC
   clear hx hc0
   go_enter Tryz.func141,Tryz.ntmps141
   go_upto_region 1 with (fail)
   rw [← HW1.out]
   obtain ⟨⟨k0,k1,k2,k3⟩,f0,f1,f2,f3⟩:=bQ hB.out
   obtain ⟨d3,d4⟩:=oD.out
   go_wp2_with fail
   refine hC.out.mono ?_
   rintro e w2 ⟨rfl,rfl⟩
   go_wp2_with fail
   go_region
   go_wp2_with fail
   refine ano (aS rfl rfl rfl rfl (show ((nO w1 (w.heap.size+1) _ _ _ _).drew).heap[w.heap.size+1]?=_ from aZ hB.out)) rfl ?_
   exact ⟨⟨none,0,rfl,.nil _⟩,(bF HB1.out (Nat.le_succ _)).drew⟩
  ·have hk':(xk != 2)=true:=by simpa using hk
   clear hx hC
   go_enter Tryz.func141,Tryz.ntmps141
   go_upto_region 1 with (fail)
   rw [← HW1.out]
   obtain ⟨⟨k0,k1,k2,k3⟩,f0,f1,f2,f3⟩:=bQ hB.out
   obtain ⟨d3,d4⟩:=oD.out
   go_wp2_with fail
   go_region
   go_wp2_with fail
   refine ano (aS rfl rfl rfl rfl (show ((nO w1 (w.heap.size+1) _ _ _ _).drew).heap[w.heap.size+1]?=_ from aZ hB.out)) rfl ?_
   exact ⟨⟨none,0,rfl,.nil _⟩,(bF HB1.out (Nat.le_succ _)).drew⟩
theorem Iu (s:ByteArray)(n:Int)(x:T)(ks:List T)(a:Int)(hk2:x.k=2)(hc0:dB x.s.toList≠0)(hne:ks.length≠dB x.s.toList)(A:Option Addr)(c:Nat)(w:World)(hA:bz w w.heap.size A (x :: ks)) :
 Calls Tryz.prog 141 #[.agg #[.int .i64 1,.string s,.int .i64 n,.slice A (x :: ks).length c,.int .i64 a]] w (kJ (zeroE,23,a) w):=by
 obtain ⟨m,em⟩:∃ m,m=ks.length:=⟨_,rfl⟩
 have hlen:(x :: ks).length≤9223372036854775807:=hA.len
 rw [← em] at hne
 simp only [List.length_cons,← em] at hlen ⊢
 obtain ⟨w1,aK⟩:∃ w1,w1=(w.alloc (.cells #[.int .i64 1,.string s,.int .i64 n,.slice A (m+1) c,.int .i64 a] 71)).alloc (.cells #[.int .i64 0,.string ⟨#[]⟩,.int .i64 0,.slice none 0 0] 38):=⟨_,rfl⟩
 have hb1:Below w.heap.size w w1:=by rw [aK];exact ((anl _ _).alloc (ank _) _).alloc (by simp) _
 have hws:w1.heap.size=w.heap.size+2:=by rw [aK];simp
 have HB1:=anc hb1
 have hB:Hid (w1.heap[w.heap.size+1]?=some (.cells #[.int .i64 0,.string ⟨#[]⟩,.int .i64 0,.slice none 0 0] 38 (0,0))):=anc (by
  rw [aK]
  have:=anm (w.alloc (.cells #[.int .i64 1,.string s,.int .i64 n,.slice A (m+1) c,.int .i64 a] 71)) (.cells #[.int .i64 0,.string ⟨#[]⟩,.int .i64 0,.slice none 0 0] 38)
  simpa using this)
 have oD:Hid (w1.cell? ⟨w.heap.size,3,none⟩=some (.slice A (m+1) c)∧w1.cell? ⟨w.heap.size,4,none⟩=some (.int .i64 a)):=anc (by rw [aK];simp)
 have HW1:=anc aK
 obtain ⟨b,o,A',c',rfl,hlt,x0,x1,_,_,_,_,_⟩:=((hA.low hb1).more hb1.size).cu w1 (anl _ _) 0 x rfl
 rw [Nat.zero_mul,Nat.add_zero] at x0 x1
 have hm0:(0:Int) < ((m+1:Nat):Int):=by omega
 have hm1:(((m+1:Nat):Int) == 0)=false:=by simp;omega
 obtain ⟨xk,xs,xn,xl,xa⟩:=x
 simp only [T.k,T.s] at x0 x1 hk2 hc0 hne
 subst hk2
 have hC:=anc (count_any xs)
 generalize dB xs.toList=cn at *
 have hcz:((cn:Int) == 0)=false:=by simp;omega
 have hn1:((m:Int) != (cn:Int))=true:=by simp;omega
 clear hA em aK hb1 hc0 hne
 have hb2:Below w1.heap.size w1 (w1.alloc (.cells #[.int .i64 4,.string xs,.int .i64 0,.slice none 0 0] 38)):=(anl _ _).alloc (ank _) _
 have hB2:Hid ((w1.alloc (.cells #[.int .i64 4,.string xs,.int .i64 0,.slice none 0 0] 38)).heap[w.heap.size+1]?=some (.cells #[.int .i64 0,.string ⟨#[]⟩,.int .i64 0,.slice none 0 0] 38 (0,0))):=anc ((hb2.block _ (by omega)).trans hB.out)
 have HD2:Hid ((w1.alloc (.cells #[.int .i64 4,.string xs,.int .i64 0,.slice none 0 0] 38)).cell? ⟨w.heap.size,3,none⟩=some (.slice (some ⟨b,o,none⟩) (m+1) c)∧(w1.alloc (.cells #[.int .i64 4,.string xs,.int .i64 0,.slice none 0 0] 38)).cell? ⟨w.heap.size,4,none⟩=some (.int .i64 a)) :=
  anc ⟨(hb2.cell (p:=⟨w.heap.size,3,none⟩) (show w.heap.size < _ by omega)).trans oD.out.1,(hb2.cell (p:=⟨w.heap.size,4,none⟩) (show w.heap.size < _ by omega)).trans oD.out.2⟩
 have HE2:Hid ((w1.alloc (.cells #[.int .i64 4,.string xs,.int .i64 0,.slice none 0 0] 38)).cell? ⟨w.heap.size+2,1,none⟩=some (.string xs)):=anc (by rw [← hws];simp)
 have HB2:=anc (HB1.out.trans (hb2.mono (by omega)))
 clear hb2
 go_enter Tryz.func141,Tryz.ntmps141
 go_upto_region 1 with (fail)
 rw [← HW1.out]
 obtain ⟨d3,d4⟩:=oD.out
 go_wp2_with fail
 refine (hC.out _).mono ?_
 rintro e w2 ⟨rfl,rfl⟩
 go_upto_region 4 with (fail)
 generalize (w1.alloc (.cells #[.int .i64 4,.string xs,.int .i64 0,.slice none 0 0] 38))=w2 at *
 obtain ⟨y3,y4⟩:=HD2.out
 have y1:=HE2.out
 obtain ⟨⟨k0,k1,k2,k3⟩,f0,f1,f2,f3⟩:=bQ hB2.out
 clear x0 x1 hlt d3 d4
 go_quiet ((go_at_call 131;exact Calls.quiet_of_same ((hC.out _).mono fun e w' ⟨h1,h2⟩=>⟨h1,h2.symm⟩)))
 go_wp2_with fail
 go_region
 go_wp2_with fail
 refine ano (aS rfl rfl rfl rfl (show (nO (w2.drewN _) (w.heap.size+1) _ _ _ _).heap[w.heap.size+1]?=_ from aZ (show (w2.drewN _).heap[w.heap.size+1]?=_ from hB2.out))) rfl ?_
 exact ⟨⟨none,0,rfl,.nil _⟩,bF (below_drewN HB2.out _) (Nat.le_succ _)⟩
theorem tZ:(Tryz.prog.info? 38).map (fun i=>(i.zero,i.size,i.bytes))=some (some (.agg #[.int .i64 0,.string ByteArray.empty,.int .i64 0,.slice none 0 0]),4,56):=by kernel_rfl
theorem iT {w:World} {p k:Nat} {x0 x1 x2 x3:Value} (h:k≠p):(nO w p x0 x1 x2 x3).heap[k]?=w.heap[k]?:=by
 simp only [nO,World.setCell,Array.getElem?_modify]
 rw [if_neg (by omega),if_neg (by omega),if_neg (by omega),if_neg (by omega)]
theorem oU {w:World} {p:Nat} {x0 x1 x2 x3:Value}:(nO w p x0 x1 x2 x3).heap.size=w.heap.size:=by simp [nO,World.setCell]
theorem N7 {w:World} {B n:Nat} {e:TypeId} {z:Nat} {v:Value} {xs:List Value} (h:w.ownsRow B e z v n xs) {p:Addr} (u:Value)(hp:p.block < B):(w.setCell p u).ownsRow B e z v n xs:=by
 obtain ⟨h1,h2⟩:=h
 refine ⟨h1,?_⟩
 rcases h2 with h2 | ⟨g,cap,cur,e1,hb,hg,r⟩
 ·exact .inl h2
 ·exact .inr ⟨g,cap,cur,e1,hb,(ann w p u g (by omega)).trans hg,r⟩
theorem Iw {wr w3 w6:World} {v v':Value} {base:Nat} {ps:List EP} {x:EP}
 (hxk:∀ p ∈ ps,gy wr (fun k=>base≤k∧k < wr.heap.size∧v.ownBlock≠some k) p.2.1 p.1.kids)
 (hx:gy w3 (fun k=>wr.heap.size≤k∧k < w3.heap.size) x.2.1 x.1.kids)(hbase:base≤wr.heap.size)
 (h1:∀ k,base≤k→k < wr.heap.size→v.ownBlock≠some k→w6.heap[k]?=wr.heap[k]?)(h2:∀ k,wr.heap.size≤k→k < w3.heap.size→w6.heap[k]?=w3.heap[k]?)
 (hs:wr.heap.size≤w3.heap.size)(hs6:w3.heap.size≤w6.heap.size)(hv1:∀ k,v.ownBlock=some k→k < wr.heap.size)(hv:v'.ownBlock=v.ownBlock∨∃ n,v'.ownBlock=some n∧w3.heap.size≤n) :
 ∀ p ∈ ps ++ [x],gy w6 (fun k=>base≤k∧k < w6.heap.size∧v'.ownBlock≠some k) p.2.1 p.1.kids:=by
 intro p hp
 rcases List.mem_append.1 hp with hp | hp
 ·refine ((hxk p hp).kept fun k hk=>h1 k hk.1 hk.2.1 hk.2.2).mono fun k hk=>⟨hk.1,by have:=hk.2.1;omega,?_⟩
  rcases hv with hv | ⟨n,hv,hn⟩
  ·rw [hv];exact hk.2.2
  ·rw [hv];intro e;have:=Option.some.inj e;have:=hk.2.1;omega
 ·obtain rfl:p=x:=by simpa using hp
  refine (hx.kept fun k hk=>h2 k hk.1 hk.2).mono fun k hk=>⟨by have:=hk.1;omega,by have:=hk.2;omega,?_⟩
  rcases hv with hv | ⟨n,hv,hn⟩
  ·rw [hv];intro e;have:=hv1 k e;have:=hk.1;omega
  ·rw [hv];intro e;have:=Option.some.inj e;have:=hk.2;omega
theorem KT (s:ByteArray)(n:Int)(x:T)(ks:List T)(a:Int)(hk2:x.k=2)(hc0:dB x.s.toList≠0)(heq:ks.length=dB x.s.toList)(hM:∀ t ∈ ks,tY t)(A:Option Addr)(c:Nat)(w:World)(hcap:(x :: ks).length≤c)(hA:bz w w.heap.size A (x :: ks)) :
 Calls Tryz.prog 141 #[.agg #[.int .i64 1,.string s,.int .i64 n,.slice A (x :: ks).length c,.int .i64 a]] w (kJ (if (aN ks).2.1=0 then (.mk 4 x.s 0 (aN ks).1,0,0) else (zeroE,(aN ks).2.1,(aN ks).2.2)) w):=by
 obtain ⟨m,em⟩:∃ m,m=ks.length:=⟨_,rfl⟩
 have hlen:(x :: ks).length≤9223372036854775807:=hA.len
 rw [← em] at heq
 simp only [List.length_cons,← em] at hlen hcap ⊢
 obtain ⟨w1,aK⟩:∃ w1,w1=(w.alloc (.cells #[.int .i64 1,.string s,.int .i64 n,.slice A (m+1) c,.int .i64 a] 71)).alloc (.cells #[.int .i64 0,.string ⟨#[]⟩,.int .i64 0,.slice none 0 0] 38):=⟨_,rfl⟩
 have hb1:Below w.heap.size w w1:=by rw [aK];exact ((anl _ _).alloc (ank _) _).alloc (by simp) _
 have hws:w1.heap.size=w.heap.size+2:=by rw [aK];simp
 have HB1:=anc hb1
 have hB:Hid (w1.heap[w.heap.size+1]?=some (.cells #[.int .i64 0,.string ⟨#[]⟩,.int .i64 0,.slice none 0 0] 38 (0,0))):=anc (by
  rw [aK]
  have:=anm (w.alloc (.cells #[.int .i64 1,.string s,.int .i64 n,.slice A (m+1) c,.int .i64 a] 71)) (.cells #[.int .i64 0,.string ⟨#[]⟩,.int .i64 0,.slice none 0 0] 38)
  simpa using this)
 have oD:Hid (w1.cell? ⟨w.heap.size,3,none⟩=some (.slice A (m+1) c)∧w1.cell? ⟨w.heap.size,4,none⟩=some (.int .i64 a)):=anc (by rw [aK];simp)
 have HW1:=anc aK
 have HK:=anc ((hA.low hb1).more hb1.size)
 obtain ⟨b,o,A',c',rfl,hlt,x0,x1,_,_,_,_,_⟩:=((hA.low hb1).more hb1.size).cu w1 (anl _ _) 0 x rfl
 rw [Nat.zero_mul,Nat.add_zero] at x0 x1
 have hm0:(0:Int) < ((m+1:Nat):Int):=by omega
 have hm1:(((m+1:Nat):Int) == 0)=false:=by simp;omega
 obtain ⟨xk,xs,xn,xl,xa⟩:=x
 simp only [T.k,T.s] at x0 x1 hk2 hc0 heq ⊢
 subst hk2
 have hC:=anc (count_any xs)
 have KU:m≤3:=by
  have hcb:dB xs.toList≤3:=by
   unfold dB
   repeat' split
   all_goals omega
  omega
 generalize dB xs.toList=cn at *
 have hcz:((cn:Int) == 0)=false:=by simp;omega
 have hn1:((m:Int) != (cn:Int))=false:=by simp;omega
 have HM:=anc hM
 have wF:=anc em
 have abE:0 < m:=by omega
 obtain ⟨Q,hQ⟩:∃ Q:E×Int×Int,Q=(if (aN ks).2.1=0 then (.mk 4 xs 0 (aN ks).1,0,0) else (zeroE,(aN ks).2.1,(aN ks).2.2)):=⟨_,rfl⟩
 have HQ:=anc hQ
 rw [← hQ]
 clear hA em aK hb1 hc0 heq hM hQ
 have hb2:Below w1.heap.size w1 (w1.alloc (.cells #[.int .i64 4,.string xs,.int .i64 0,.slice none 0 0] 38)):=(anl _ _).alloc (ank _) _
 have hB2:Hid ((w1.alloc (.cells #[.int .i64 4,.string xs,.int .i64 0,.slice none 0 0] 38)).heap[w.heap.size+1]?=some (.cells #[.int .i64 0,.string ⟨#[]⟩,.int .i64 0,.slice none 0 0] 38 (0,0))):=anc ((hb2.block _ (by omega)).trans hB.out)
 have HD2:Hid ((w1.alloc (.cells #[.int .i64 4,.string xs,.int .i64 0,.slice none 0 0] 38)).cell? ⟨w.heap.size,3,none⟩=some (.slice (some ⟨b,o,none⟩) (m+1) c)∧(w1.alloc (.cells #[.int .i64 4,.string xs,.int .i64 0,.slice none 0 0] 38)).cell? ⟨w.heap.size,4,none⟩=some (.int .i64 a)) :=
  anc ⟨(hb2.cell (p:=⟨w.heap.size,3,none⟩) (show w.heap.size < _ by omega)).trans oD.out.1,(hb2.cell (p:=⟨w.heap.size,4,none⟩) (show w.heap.size < _ by omega)).trans oD.out.2⟩
 have HE2:Hid ((w1.alloc (.cells #[.int .i64 4,.string xs,.int .i64 0,.slice none 0 0] 38)).cell? ⟨w.heap.size+2,1,none⟩=some (.string xs)):=anc (by rw [← hws];simp)
 have HB2:=anc (HB1.out.trans (hb2.mono (by omega)))
 have dG:Hid ((w1.alloc (.cells #[.int .i64 4,.string xs,.int .i64 0,.slice none 0 0] 38)).heap[w.heap.size+2]?=some (.cells #[.int .i64 4,.string xs,.int .i64 0,.slice none 0 0] 38 (0,0))):=anc (by rw [← hws];exact anm w1 _)
 have HS2:Hid ((w1.alloc (.cells #[.int .i64 4,.string xs,.int .i64 0,.slice none 0 0] 38)).heap.size=w.heap.size+3):=anc (by simp;omega)
 have VJ:=anc hb2
 clear hb2
 go_enter Tryz.func141,Tryz.ntmps141
 go_upto_region 1 with (fail)
 rw [← HW1.out]
 obtain ⟨d3,d4⟩:=oD.out
 go_wp2_with fail
 refine (hC.out _).mono ?_
 rintro e w2 ⟨rfl,rfl⟩
 go_upto_region 4 with (fail)
 generalize (w1.alloc (.cells #[.int .i64 4,.string xs,.int .i64 0,.slice none 0 0] 38))=w2 at *
 obtain ⟨y3,y4⟩:=HD2.out
 have y1:=HE2.out
 obtain ⟨⟨k0,k1,k2,k3⟩,f0,f1,f2,f3⟩:=bQ hB2.out
 clear x0 x1 hlt d3 d4
 go_quiet ((go_at_call 131;exact Calls.quiet_of_same ((hC.out _).mono fun e w' ⟨h1,h2⟩=>⟨h1,h2.symm⟩)))
 generalize hwq:w2.drewN nq=wq at *
 have YU:wq.heap.size=w.heap.size+3:=by rw [← hwq];exact HS2.out
 have HXQ:Hid (wq.heap[w.heap.size+2]?=some (.cells #[.int .i64 4,.string xs,.int .i64 0,.slice none 0 0] 38 (0,0))):=anc (by rw [← hwq];exact dG.out)
 have HRQ:Hid (wq.heap[w.heap.size+1]?=some (.cells #[.int .i64 0,.string ⟨#[]⟩,.int .i64 0,.slice none 0 0] 38 (0,0))):=anc (by rw [← hwq];exact hB2.out)
 have qZ:Hid (Below w.heap.size w wq):=anc (by rw [← hwq];exact below_drewN HB2.out _)
 have VK:Hid (Below w1.heap.size w1 wq):=anc (by rw [← hwq];exact below_drewN VJ.out _)
 have z3:wq.cell? ⟨w.heap.size,3,none⟩=some (.slice (some ⟨b,o,none⟩) (m+1) c):=by rw [← hwq];exact HD2.out.1
 have ZD:=anc z3
 have hcc:m+1≤c:=hcap
 have hc1:(1:Int)≤((m+1:Nat):Int):=by omega
 clear hwq dG HS2 VJ hB2 HB2 HD2 HE2 y3 y4 y1 k0 k1 k2 k3 f0 f1 f2 f3
 go_wp2_with fail
 go_loopw [56] (fun i wr=>∃ (j:Nat)(ps:List EP)(v:Value),j≤m∧ps.length=j∧i=.int .i64 j∧wr.heap[w.heap.size+2]?=some (.cells #[.int .i64 4,.string xs,.int .i64 0,v] 38 (0,0)) ∧
  wr.ownsRow wq.heap.size 38 4 v j (iZ ps)∧Hid (∀ p ∈ ps,gy wr (fun k=>wq.heap.size≤k∧k < wr.heap.size∧v.ownBlock≠some k) p.2.1 p.1.kids)∧Below (w.heap.size+2) wq wr ∧
  Hid (aN ks=(ps.map Prod.fst ++ (aN (ks.drop j)).1,(aN (ks.drop j)).2.1,(aN (ks.drop j)).2.2))) (fun i _=>m - (intOf i).toNat)
 case atStart=>exact ⟨0,[],.slice none 0 0,Nat.zero_le _,rfl,rfl,HXQ.out,World.ownsRow_nil _ _ _ _,anc (fun p hp=>by cases hp),anl _ _,anc rfl⟩
 case round =>
  obtain ⟨j,ps,v,hj,hpl,rfl,hbox,hown,hxk,hb,hzl⟩:=hrel
  have HO:=anc hown
  have HB:=anc hb
  have hs:=hb.size
  have jI:=anc hpl
  have iJ:=anc hbox
  clear hown hpl
  by_cases hlt2:j < m
  ·obtain ⟨x,hx⟩:∃ x,ks[j]?=some x:=⟨_,anr (by rw [← wF.out];exact hlt2)⟩
   have RH:Below w1.heap.size w1 wr:=VK.out.trans (hb.mono (by omega))
   obtain ⟨b',o',A',c',hb',_,c1,c2,c3,c4,c5,hcx,hKx⟩:=HK.out.cu wr RH (j+1) x (by simpa using hx)
   injection hb' with hb'
   injection hb' with hbb hoo
   subst hbb hoo
   rw [show o+(j+1) * 5=o+5+j * 5 by omega] at c1 c2 c3 c4 c5
   have Bv:=HM.out x (anq hx)
   have hst:Hid (aN (ks.drop j)=if (aI x).2.1=0 then ((aI x).1 :: (aN (ks.drop (j+1))).1,(aN (ks.drop (j+1))).2.1,(aN (ks.drop (j+1))).2.2) else ([],(aI x).2.1,(aI x).2.2)):=anc (by
    obtain ⟨g1,g2⟩:=List.getElem?_eq_some_iff.1 hx
    rw [List.drop_eq_getElem_cons g1,g2,aN])
   clear hx
   obtain ⟨tk,ts,tn,tl,ta⟩:=x
   simp only [T.k,T.s,T.n,T.kids,T.at_] at c1 c2 c3 c4 c5 hKx hcx
   have hba:Below wr.heap.size wr (wr.alloc (.cells #[.int .i64 tk,.string ts,.int .i64 tn,.slice A' tl.length c',.int .i64 ta] 71)):=(anl _ _).alloc (ank _) _
   have HBA:=anc hba
   have hcl:=anc (Bv A' c' (wr.alloc (.cells #[.int .i64 tk,.string ts,.int .i64 tn,.slice A' tl.length c',.int .i64 ta] 71)) hcx ((hKx.low hba).more hba.size))
   simp only [T.val,T.k,T.s,T.n,T.kids,T.at_] at hcl
   generalize hq:aI (.mk tk ts tn tl ta)=tq at *
   generalize tl.length=tm at *
   obtain ⟨⟨ek,es,en,el⟩,wy,at2⟩:=tq
   simp only [E.val,E.k,E.s,E.n,E.kids] at hcl hst
   have VL:=hzl
   clear hKx Bv hbox hba hcx hq hzl RH
   go_wp2_with fail
   refine (hcl.out).mono ?_
   rintro e w3 ⟨⟨A3,c3',rfl,hX⟩,hb3⟩
   have F9:Below wr.heap.size wr w3:=HBA.out.trans (hb3.mono HBA.out.size)
   have hx3:Below w3.heap.size w3 (w3.alloc (.cells #[.int .i64 ek,.string es,.int .i64 en,.slice A3 el.length c3'] 38)):=(anl _ _).alloc (ank _) _
   have hw3:Hid (Below wr.heap.size wr (w3.alloc (.cells #[.int .i64 ek,.string es,.int .i64 en,.slice A3 el.length c3'] 38))):=anc (F9.trans (hx3.mono F9.size))
   have hN3:Hid ((w3.alloc (.cells #[.int .i64 ek,.string es,.int .i64 en,.slice A3 el.length c3'] 38)).heap[w3.heap.size]?=some (.cells #[.int .i64 ek,.string es,.int .i64 en,.slice A3 el.length c3'] 38 (0,0))):=anc (anm w3 _)
   have VM:Hid ((w3.alloc (.cells #[.int .i64 ek,.string es,.int .i64 en,.slice A3 el.length c3'] 38)).heap[w.heap.size+1]?=some (.cells #[.int .i64 0,.string ⟨#[]⟩,.int .i64 0,.slice none 0 0] 38 (0,0))):=anc ((hw3.out.block _ (by omega)).trans ((HB.out.block _ (by omega)).trans HRQ.out))
   have VN:Hid ((w3.alloc (.cells #[.int .i64 ek,.string es,.int .i64 en,.slice A3 el.length c3'] 38)).heap[w.heap.size+2]?=some (.cells #[.int .i64 4,.string xs,.int .i64 0,v] 38 (0,0))):=anc ((hw3.out.block _ (by omega)).trans iJ.out)
   have hS3:Hid ((w3.alloc (.cells #[.int .i64 ek,.string es,.int .i64 en,.slice A3 el.length c3'] 38)).heap.size=w3.heap.size+1∧wr.heap.size≤w3.heap.size):=anc ⟨by simp,F9.size⟩
   clear F9 hx3
   have hs3:=hw3.out.size
   have mP:=anc hX
   clear hX hb3 HBA
   by_cases hw0:wy=0
   ·subst hw0
    obtain ⟨⟨k0,k1,k2,k3⟩,g0,g1,g2,g3⟩:=bQ VN.out
    obtain ⟨⟨n0,n1,n2,n3⟩,m0,m1,m2,m3⟩:=bQ hN3.out
    have hrl:Hid (aN ks=((ps ++ [((.mk ek es en el:E),A3,c3')]).map Prod.fst ++ (aN (ks.drop (j+1))).1,(aN (ks.drop (j+1))).2.1,(aN (ks.drop (j+1))).2.2)):=anc (by
     rw [VL.out,hst.out,if_pos rfl];simp)
    have Kw:=anc (own_below HO.out hw3.out)
    clear hst VL hs3
    obtain ⟨i0,hi,hz0,hz1,hz2⟩:=info_parts tZ
    go_wp2_with (at_builtin;refine wpList_append_own_at _ rfl _ _ 22 rfl wq.heap.size 38 i0 _ 4 56 Tryz.underlying22 hi hz0 hz1 hz2 rfl (by decide) _ _ _ rfl (Kw.out.alloc _) ⟨w3.heap.size+1,0,none⟩ 1 1 (EP.cs ((.mk ek es en el:E),A3,c3')) rfl rfl ?c1 ?c2 ?c3 ?c4 ?c5 ?_)
    case c1 =>
     intro i u hu
     match i,hu with
     | 0,hu=>simp [EP.cs,E.k] at hu;subst hu;simp [Addr.add]
     | 1,hu=>simp [EP.cs,E.s] at hu;subst hu;simp [Addr.add]
     | 2,hu=>simp [EP.cs,E.n] at hu;subst hu;simp [Addr.add]
     | 3,hu=>simp [EP.cs,E.kids] at hu;subst hu;simp [Addr.add]
    case c2=>rw [← kY];exact vg _
    case c3=>unfold maxLen;omega
    case c4=>omega
    case c5=>simp;have:=hS3.out.2;omega
    intro v' w5 hown' hgrow _ hat
    have bI:Hid ((w3.alloc (.cells #[.int .i64 ek,.string es,.int .i64 en,.slice A3 el.length c3'] 38)).grownBy w5 v.ownBlock):=anc ((World.grownBy_alloc _ _ _).trans hgrow)
    have gY:Hid (v'.ownBlock=v.ownBlock∨∃ n,v'.ownBlock=some n∧w3.heap.size≤n):=anc (hat.imp_right fun h=>⟨_,h,by first | omega | (simp;omega)⟩)
    obtain ⟨g',cap',rfl,hg1,hg2⟩:=hown'.form (by omega)
    have fV:Hid (w5.ownsRow wq.heap.size 38 4 (.slice (some ⟨g',0,none⟩) (j+1) cap') (j+1) (iZ (ps ++ [((.mk ek es en el:E),A3,c3')]))):=anc (by rw [mf,kY,YU];exact hown')
    clear hown' hgrow hat k0 k1 k2 k3 g0 g1 g2 g3 n0 n1 n2 n3 m0 m1 m2 m3
    have hE5:Hid (w5.heap[w.heap.size+2]?=some (.cells #[.int .i64 4,.string xs,.int .i64 0,v] 38 (0,0))):=anc ((bI.out.block _ (by have:=hS3.out;omega) (fun e=>by have:=(HO.out.lt _ e.symm).1;omega)).trans VN.out)
    obtain ⟨⟨k0,k1,k2,k3⟩,g0,g1,g2,g3⟩:=bQ hE5.out
    go_wp2_with fail
    go_roundw
    case rel =>
     refine ⟨_,_,_,_,_,_,_,_,_,_,_,_,_,_,_,_,_,_,_,_,_,_,_,_,_,_,_,_,?_,rfl⟩
     have hs5:=bI.out.size
     have aeB:=hS3.out.1
     have YV:=hS3.out.2
     have hother:∀ k,k≠w.heap.size+2→k < w3.heap.size+1→v.ownBlock≠some k→(w5.setCell ⟨w.heap.size+2,3,none⟩ (.slice (some ⟨g',0,none⟩) (j+1) cap')).heap[k]?=(w3.alloc (.cells #[.int .i64 ek,.string es,.int .i64 en,.slice A3 el.length c3'] 38)).heap[k]?:=fun k h1 h2 h3 =>
      (ann w5 ⟨w.heap.size+2,3,none⟩ _ k h1).trans (bI.out.block k (by omega) fun e=>h3 e.symm)
     refine ⟨j+1,ps ++ [((.mk ek es en el:E),A3,c3')],.slice (some ⟨g',0,none⟩) (j+1) cap',by omega,by rw [List.length_append,jI.out];rfl,by go_num,EC (k:=3) hE5.out,N7 fV.out _ (by show w.heap.size+2 < wq.heap.size;omega),anc ?_,?_,hrl⟩
     ·refine Iw hxk.out (mP.out.mono fun k hk=>⟨by have:=hk.1;simp at this;omega,hk.2⟩) hs (fun k h1 h2 h3=>(hother k (by omega) (by omega) h3).trans (hw3.out.block k h2)) (fun k h1 h2=>(hother k (by omega) (by omega) fun e=>by have:=(HO.out.lt _ e).2;omega).trans (heap_alloc_old _ _ h2)) YV ?_ (fun k e=>(HO.out.lt _ e).2) gY.out
      simp only [World.setCell,Array.size_modify]
      omega
     ·exact ((HB.out.trans (hw3.out.mono (by omega))).grown bI.out (by omega) (fun g hg=>by have:=(HO.out.lt g hg).1;omega)).setCell (p:=⟨w.heap.size+2,3,none⟩) (ank _) _
    case measure=>simp [intOf];omega
   ·have hy:(wy != 0)=true:=by simpa using hw0
    have hy':(wy == 0)=false:=by simpa using hw0
    have h1:(aN ks).2=(wy,at2):=by rw [VL.out,hst.out,if_neg hw0]
    have hq:Hid (Q=(zeroE,wy,at2)):=anc (by rw [HQ.out,h1,if_neg hw0])
    obtain ⟨⟨q0,q1,q2,q3⟩,f0,f1,f2,f3⟩:=bQ VM.out
    clear h1 hst hs3 VL
    go_wp2_with fail
    refine ano (aS rfl rfl rfl rfl (aZ VM.out)) rfl ?_
    refine ⟨⟨none,0,by rw [hq.out];rfl,by rw [hq.out];exact .nil _⟩,bF (qZ.out.trans ((HB.out.mono (by omega)).trans (hw3.out.mono (by omega)))) (Nat.le_succ _)⟩
  ·obtain rfl:j=m:=by omega
   obtain ⟨k0,k1,k2,k3⟩:=(bQ iJ.out).1
   have hd:ks.drop j=[]:=List.drop_eq_nil_of_le (by rw [← wF.out];exact ank _)
   have h1:aN ks=(ps.map Prod.fst,0,0):=by rw [hzl.out,hd];simp [aN]
   have hq:Hid (Q=(.mk 4 xs 0 (ps.map Prod.fst),0,0)):=anc (by rw [HQ.out,h1,if_pos rfl])
   have hO2:wr.ownsRow wq.heap.size 38 4 v ps.length (iZ ps):=by rw [jI.out];exact HO.out
   have hlj:ps.length≤9223372036854775807:=by rw [jI.out];omega
   obtain ⟨A9,c9,rfl,wG⟩:=tX hO2 hlj (S:=fun k=>wq.heap.size≤k∧k < wr.heap.size) (fun g u1 u2=>⟨u1,u2⟩) (fun p hp=>(hxk.out p hp).mono (fun k hk=>⟨hk.1,hk.2.1⟩))
   have EE:=anc wG
   have hB9:Hid (wr.heap[w.heap.size+1]?=some (.cells #[.int .i64 0,.string ⟨#[]⟩,.int .i64 0,.slice none 0 0] 38 (0,0))):=anc ((HB.out.block _ (by omega)).trans HRQ.out)
   obtain ⟨⟨q0,q1,q2,q3⟩,f0,f1,f2,f3⟩:=bQ hB9.out
   clear hd h1 hO2 hlj wG hxk hzl
   go_wp2_with fail
   refine ano (aS rfl rfl rfl rfl (aZ hB9.out)) rfl ?_
   have hsz:=HB.out.size
   refine ⟨⟨A9,c9,by rw [hq.out];simp [E.val,E.k,E.s,E.n,E.kids],?_⟩,bF (qZ.out.trans (HB.out.mono (by omega))) (Nat.le_succ _)⟩
   rw [hq.out]
   exact (EE.out.kept (fun k hk=>iT (by have:=hk.1;omega))).mono (fun k hk=>⟨by have:=hk.1;omega,anu hk.2 oU.symm⟩)
theorem EF (s:ByteArray)(n:Int)(l:List T)(a:Int):aI (.mk 1 s n l a)=(match l with
        | []=>(zeroE,12,a)
        | x :: ks=>if x.k=2∧dB x.s.toList≠0 then
            (if ks.length=dB x.s.toList then (if (aN ks).2.1=0 then (.mk 4 x.s 0 (aN ks).1,0,0) else (zeroE,(aN ks).2.1,(aN ks).2.2)) else (zeroE,23,a))
          else (zeroE,12,a)):=by
 rw [aI.eq_def]
 rfl
theorem O6 (s:ByteArray)(n:Int)(l:List T)(a:Int)(hM:∀ t ∈ l,tY t)(A:Option Addr)(c:Nat)(w:World)(hcap:l.length≤c)(hA:bz w w.heap.size A l) :
 Calls Tryz.prog 141 #[.agg #[.int .i64 1,.string s,.int .i64 n,.slice A l.length c,.int .i64 a]] w (kJ (aI (.mk 1 s n l a)) w):=by
 have hr:=EF s n l a
 match l with
 | []=>rw [hr];exact ED s n [] a (.inl rfl) A c w hA
 | x :: ks =>
   simp only at hr
   by_cases h1:x.k=2∧dB x.s.toList≠0
   ·rw [if_pos h1] at hr
    by_cases h2:ks.length=dB x.s.toList
    ·rw [if_pos h2] at hr
     rw [hr]
     exact KT s n x ks a h1.1 h1.2 h2 (fun t ht=>hM t (List.mem_cons_of_mem _ ht)) A c w hcap hA
    ·rw [if_neg h2] at hr
     rw [hr]
     exact Iu s n x ks a h1.1 h1.2 h2 A c w hA
   ·rw [if_neg h1] at hr
    rw [hr]
    exact ED s n (x :: ks) a (.inr ⟨x,ks,rfl,by
     by_cases h3:x.k=2
     ·exact .inr (Decidable.byContradiction fun h4=>h1 ⟨h3,h4⟩)
     ·exact .inl h3⟩) A c w hA
theorem O7 (s:ByteArray)(n:Int)(l:List T)(a:Int)(hM:∀ t ∈ l,tY t):tY (.mk 1 s n l a):=by
 intro A c w hcap hA
 simp only [T.val,T.k,T.s,T.n,T.kids,T.at_] at hcap hA ⊢
 obtain ⟨w1,aK⟩:∃ w1,w1=(w.alloc (.cells #[.int .i64 1,.string s,.int .i64 n,.slice A l.length c,.int .i64 a] 71)).alloc (.cells #[.int .i64 0,.string ⟨#[]⟩,.int .i64 0,.slice none 0 0] 38):=⟨_,rfl⟩
 have hb1:Below w.heap.size w w1:=by rw [aK];exact ((anl _ _).alloc (ank _) _).alloc (by simp) _
 have hws:w1.heap.size=w.heap.size+2:=by rw [aK];simp
 have HB1:=anc hb1
 have hB:Hid (w1.heap[w.heap.size+1]?=some (.cells #[.int .i64 0,.string ⟨#[]⟩,.int .i64 0,.slice none 0 0] 38 (0,0))):=anc (by
  rw [aK]
  have:=anm (w.alloc (.cells #[.int .i64 1,.string s,.int .i64 n,.slice A l.length c,.int .i64 a] 71)) (.cells #[.int .i64 0,.string ⟨#[]⟩,.int .i64 0,.slice none 0 0] 38)
  simpa using this)
 have oD:Hid (w1.cell? ⟨w.heap.size,0,none⟩=some (.int .i64 1)∧w1.cell? ⟨w.heap.size,1,none⟩=some (.string s)∧w1.cell? ⟨w.heap.size,2,none⟩=some (.int .i64 n)∧w1.cell? ⟨w.heap.size,3,none⟩=some (.slice A l.length c)∧w1.cell? ⟨w.heap.size,4,none⟩=some (.int .i64 a)):=anc (by rw [aK];simp)
 have HW1:=anc aK
 have hcl:=anc (O6 s n l a hM A c w1 hcap ((hA.low hb1).more hb1.size))
 generalize aI (.mk 1 s n l a)=q at *
 generalize l.length=ln at *
 clear hA aK hb1 hM
 obtain ⟨⟨qk,qs,qn,ql⟩,wy,at2⟩:=q
 unfold kJ at hcl
 simp only [E.val,E.k,E.s,E.n,E.kids] at hcl ⊢
 go_enter Tryz.func106,Tryz.ntmps106
 go_upto_if 7 with (fail)
 rw [← HW1.out]
 obtain ⟨d0,d1,d2,d3,d4⟩:=oD.out
 go_wp2_with fail
 refine (hcl.out).mono ?_
 rintro e w2 ⟨⟨A3,c3,rfl,hX⟩,hb2⟩
 have HX:=anc hX
 have HB2:=anc hb2
 have hB2:Hid (w2.heap[w.heap.size+1]?=some (.cells #[.int .i64 0,.string ⟨#[]⟩,.int .i64 0,.slice none 0 0] 38 (0,0))):=anc ((hb2.block _ (by omega)).trans hB.out)
 have hs2:=hb2.size
 clear hX hb2 d0 d1 d2 d3 d4
 obtain ⟨⟨k0,k1,k2,k3⟩,f0,f1,f2,f3⟩:=bQ hB2.out
 go_wp2_with fail
 refine ano (aS rfl rfl rfl rfl (aZ hB2.out)) rfl ?_
 refine ⟨⟨A3,c3,rfl,?_⟩,bF (HB1.out.trans (HB2.out.mono (by omega))) (Nat.le_succ _)⟩
 exact (HX.out.kept fun k hk=>iT (by have:=hk.1;omega)).mono fun k hk=>⟨by have:=hk.1;omega,anu hk.2 oU.symm⟩
theorem RI:∀ t,tY t:=T.ind fun k s n l a ih=>by
 by_cases hk:k=1
 ·subst hk
  exact O7 s n l a ih
 ·exact O5 k s n l a hk
abbrev TP:=T×Option Addr×Nat
def TP.cs (x:TP):List Value:=[.int .i64 x.1.k,.string x.1.s,.int .i64 x.1.n,.slice x.2.1 x.1.kids.length x.2.2,.int .i64 x.1.at_]
def aO (l:List TP):List Value:=l.flatMap TP.cs
theorem fF (l:List TP):(aO l).length=l.length * 5:=by
 induction l with
 | nil=>rfl
 | cons v l ih=>show ((TP.cs v) ++ aO l).length=_;simp [ih,TP.cs];omega
theorem mQ (l:List TP):∀ (i:Nat)(v:TP),l[i]?=some v→(aO l)[i * 5]?=some (.int .i64 v.1.k)∧(aO l)[i * 5+1]?=some (.string v.1.s)∧(aO l)[i * 5+2]?=some (.int .i64 v.1.n)∧(aO l)[i * 5+3]?=some (.slice v.2.1 v.1.kids.length v.2.2)∧(aO l)[i * 5+4]?=some (.int .i64 v.1.at_):=by
 induction l with
 | nil=>intro i v h;simp at h
 | cons x l ih =>
   intro i v h
   have e:aO (x :: l)=TP.cs x ++ aO l:=rfl
   rw [e]
   cases i with
   | zero =>
     obtain rfl:x=v:=by simpa using h
     exact ⟨rfl,rfl,rfl,rfl,rfl⟩
   | succ i =>
     have:=ih i v (by simpa using h)
     have hl:(TP.cs x).length=5:=rfl
     rw [List.getElem?_append_right (by omega),List.getElem?_append_right (by omega),List.getElem?_append_right (by omega),List.getElem?_append_right (by omega),List.getElem?_append_right (by omega),hl]
     rw [show (i+1) * 5 - 5=i * 5 from by omega,show (i+1) * 5+1 - 5=i * 5+1 from by omega,show (i+1) * 5+2 - 5=i * 5+2 from by omega,show (i+1) * 5+3 - 5=i * 5+3 from by omega,show (i+1) * 5+4 - 5=i * 5+4 from by omega]
     exact this
theorem bD (v:TP):aO [v]=TP.cs v:=by simp [aO]
theorem fZ (a b:List TP):aO (a ++ b)=aO a ++ aO b:=by simp [aO]
theorem bG (l:List TP):∀ u ∈ aO l,u.oneCell'=true:=by
 intro u hu
 obtain ⟨v,_,hv⟩:=List.mem_flatMap.1 hu
 simp only [TP.cs,List.mem_cons,List.not_mem_nil,or_false] at hv
 rcases hv with rfl | rfl | rfl | rfl | rfl <;> rfl
inductive ku (w:World)(S:Nat→Prop):Option Addr→List T→Prop
 | nil (A:Option Addr):ku w S A []
 | mk (b off:Nat)(l:List T)(hn:l.length≤9223372036854775807)(hb:S b)(A:Nat→Option Addr)(c:Nat→Nat)
    (h:∀ i e,l[i]?=some e→w.cell? ⟨b,off+i * 5,none⟩=some (.int .i64 e.k)∧w.cell? ⟨b,off+i * 5+1,none⟩=some (.string e.s) ∧
      w.cell? ⟨b,off+i * 5+2,none⟩=some (.int .i64 e.n)∧w.cell? ⟨b,off+i * 5+3,none⟩=some (.slice (A i) e.kids.length (c i))∧w.cell? ⟨b,off+i * 5+4,none⟩=some (.int .i64 e.at_)∧e.kids.length≤c i)
    (hk:∀ i e,l[i]?=some e→ku w S (A i) e.kids):ku w S (some ⟨b,off,none⟩) l
theorem ku.kept {w w':World} {S:Nat→Prop} {A:Option Addr} {l:List T} (h:ku w S A l)(hw:∀ k,S k→w'.heap[k]?=w.heap[k]?):ku w' S A l:=by
 induction h with
 | nil A=>exact .nil A
 | mk b off l hn hlt A c h hk ih =>
   refine .mk b off l hn hlt A c (fun i e he=>?_) (fun i e he=>ih i e he)
   have hc:∀ o,w'.cell? ⟨b,o,none⟩=w.cell? ⟨b,o,none⟩:=fun o=>anw (hw b hlt)
   obtain ⟨h1,h2,h3,h4,h5,h6⟩:=h i e he
   exact ⟨(hc _).trans h1,(hc _).trans h2,(hc _).trans h3,(hc _).trans h4,(hc _).trans h5,h6⟩
theorem ku.mono {w:World} {S S':Nat→Prop} {A:Option Addr} {l:List T} (h:ku w S A l)(hS:∀ k,S k→S' k):ku w S' A l:=by
 induction h with
 | nil A=>exact .nil A
 | mk b off l hn hlt A c h hk ih=>exact .mk b off l hn (hS b hlt) A c h (fun i e he=>ih i e he)
theorem ku.to {w:World} {S:Nat→Prop} {B:Nat} {A:Option Addr} {l:List T} (h:ku w S A l)(hS:∀ k,S k→k < B):bz w B A l:=by
 induction h with
 | nil A=>exact .nil A
 | mk b off l hn hlt A c h hk ih=>exact .mk b off l hn (hS b hlt) A c h (fun i e he=>ih i e he)
theorem oV {w:World} {base:Nat} {e:TypeId} {v:Value} {l:List TP} (h:w.ownsRow base e 5 v l.length (aO l))(hn:l.length≤9223372036854775807) {S:Nat→Prop} (hS:∀ g,base≤g→g < w.heap.size→S g)(hk:∀ x ∈ l,x.1.kids.length≤x.2.2∧ku w S x.2.1 x.1.kids) :
 ∃ A c,v=.slice A (l.map Prod.fst).length c∧(l.map Prod.fst).length≤c∧ku w S A (l.map Prod.fst):=by
 obtain ⟨_,hcase⟩:=id h
 rcases hcase with ⟨rfl,h0⟩ | ⟨g,cap,cur,rfl,hg,hh,hc,hcap,hsz,htake⟩
 ·have e0:l=[]:=List.eq_nil_of_length_eq_zero h0
  subst e0
  exact ⟨none,0,rfl,ank _,.nil _⟩
 ·refine ⟨some ⟨g,0,none⟩,cap,by rw [List.length_map],by rw [List.length_map];exact hc,.mk g 0 _ (by rw [List.length_map];exact hn) ?_ (fun i=>((l[i]?).map fun x=>x.2.1).getD none) (fun i=>((l[i]?).map fun x=>x.2.2).getD 0) (fun i x hx=>?_) (fun i x hx=>?_)⟩
  ·refine hS g hg ?_
   rcases Nat.lt_or_ge g w.heap.size with hlt | hge
   ·exact hlt
   ·rw [Array.getElem?_eq_none hge] at hh;cases hh
  ·rw [List.getElem?_map] at hx
   cases hl:l[i]? with
   | none=>rw [hl] at hx;cases hx
   | some y =>
     rw [hl] at hx
     obtain rfl:y.1=x:=by simpa using hx
     obtain ⟨f1,f2,f3,f4,f5⟩:=mQ l i y hl
     have hi:i < l.length:=(List.getElem?_eq_some_iff.1 hl).1
     rw [Nat.zero_add,h.cellAt _ (by omega),h.cellAt _ (by omega),h.cellAt _ (by omega),h.cellAt _ (by omega),h.cellAt _ (by omega)]
     exact ⟨f1,f2,f3,f4,f5,(hk y (anq hl)).1⟩
  ·rw [List.getElem?_map] at hx
   cases hl:l[i]? with
   | none=>rw [hl] at hx;cases hx
   | some y =>
     rw [hl] at hx
     obtain rfl:y.1=x:=by simpa using hx
     exact (hk y (anq hl)).2
theorem Iy {wr w3 w6:World} {v v':Value} {base:Nat} {ps:List TP} {x:TP}
 (hxk:∀ p ∈ ps,p.1.kids.length≤p.2.2∧ku wr (fun k=>base≤k∧k < wr.heap.size∧v.ownBlock≠some k) p.2.1 p.1.kids)
 (RN:x.1.kids.length≤x.2.2)(hx:ku w3 (fun k=>wr.heap.size≤k∧k < w3.heap.size) x.2.1 x.1.kids)(hbase:base≤wr.heap.size)
 (h1:∀ k,base≤k→k < wr.heap.size→v.ownBlock≠some k→w6.heap[k]?=wr.heap[k]?)(h2:∀ k,wr.heap.size≤k→k < w3.heap.size→w6.heap[k]?=w3.heap[k]?)
 (hs:wr.heap.size≤w3.heap.size)(hs6:w3.heap.size≤w6.heap.size)(hv1:∀ k,v.ownBlock=some k→k < wr.heap.size)(hv:v'.ownBlock=v.ownBlock∨∃ n,v'.ownBlock=some n∧w3.heap.size≤n) :
 ∀ p ∈ ps ++ [x],p.1.kids.length≤p.2.2∧ku w6 (fun k=>base≤k∧k < w6.heap.size∧v'.ownBlock≠some k) p.2.1 p.1.kids:=by
 intro p hp
 rcases List.mem_append.1 hp with hp | hp
 ·refine ⟨(hxk p hp).1,((hxk p hp).2.kept fun k hk=>h1 k hk.1 hk.2.1 hk.2.2).mono fun k hk=>⟨hk.1,by have:=hk.2.1;omega,?_⟩⟩
  rcases hv with hv | ⟨n,hv,hn⟩
  ·rw [hv];exact hk.2.2
  ·rw [hv];intro e;have:=Option.some.inj e;have:=hk.2.1;omega
 ·obtain rfl:p=x:=by simpa using hp
  refine ⟨RN,(hx.kept fun k hk=>h2 k hk.1 hk.2).mono fun k hk=>⟨by have:=hk.1;omega,by have:=hk.2;omega,?_⟩⟩
  rcases hv with hv | ⟨n,hv,hn⟩
  ·rw [hv];intro e;have:=hv1 k e;have:=hk.1;omega
  ·rw [hv];intro e;have:=Option.some.inj e;have:=hk.2;omega
theorem kV {w:World} {g k:Nat} {a b c d e u:Value} {t:TypeId} (h:w.heap[g]?=some (.cells #[a,b,c,d,e] t (0,0))):(w.setCell ⟨g,k,none⟩ u).heap[g]?=some (.cells (#[a,b,c,d,e].set! k u) t (0,0)):=by
 show (w.heap.modify g _)[g]?=_
 rw [Array.getElem?_modify]
 simp [h]
def Iz (w:World)(p:Nat)(x0 x1 x2 x3 x4:Value):World:=((((w.setCell ⟨p,0,none⟩ x0).setCell ⟨p,1,none⟩ x1).setCell ⟨p,2,none⟩ x2).setCell ⟨p,3,none⟩ x3).setCell ⟨p,4,none⟩ x4
theorem aB {w:World} {p:Nat} {a b c d e x0 x1 x2 x3 x4:Value} {t:TypeId} (h:w.heap[p]?=some (.cells #[a,b,c,d,e] t (0,0))):(Iz w p x0 x1 x2 x3 x4).heap[p]?=some (.cells #[x0,x1,x2,x3,x4] t (0,0)) :=
 kV (k:=4) (kV (k:=3) (kV (k:=2) (kV (k:=1) (kV (k:=0) h))))
theorem aC {w a:World} {p B:Nat} {x0 x1 x2 x3 x4:Value} (h:Below B a w)(hp:B≤p):Below B a (Iz w p x0 x1 x2 x3 x4) :=
 ((((h.setCell (p:=⟨p,0,none⟩) hp x0).setCell (p:=⟨p,1,none⟩) hp x1).setCell (p:=⟨p,2,none⟩) hp x2).setCell (p:=⟨p,3,none⟩) hp x3).setCell (p:=⟨p,4,none⟩) hp x4
theorem kZ {w:World} {p k:Nat} {x0 x1 x2 x3 x4:Value} (h:k≠p):(Iz w p x0 x1 x2 x3 x4).heap[k]?=w.heap[k]?:=by
 simp only [Iz,World.setCell,Array.getElem?_modify]
 rw [if_neg (by omega),if_neg (by omega),if_neg (by omega),if_neg (by omega),if_neg (by omega)]
theorem oW {w:World} {p:Nat} {x0 x1 x2 x3 x4:Value}:(Iz w p x0 x1 x2 x3 x4).heap.size=w.heap.size:=by simp [Iz,World.setCell]
theorem ay {w:World} {g:Nat} {a b c d e:Value} {t:TypeId} (h:w.heap[g]?=some (.cells #[a,b,c,d,e] t (0,0))) :
 (w.cell? ⟨g,0,none⟩=some a∧w.cell? ⟨g,1,none⟩=some b∧w.cell? ⟨g,2,none⟩=some c∧w.cell? ⟨g,3,none⟩=some d∧w.cell? ⟨g,4,none⟩=some e)∧w.frozen? ⟨g,0,none⟩=false∧w.frozen? ⟨g,1,none⟩=false∧w.frozen? ⟨g,2,none⟩=false∧w.frozen? ⟨g,3,none⟩=false∧w.frozen? ⟨g,4,none⟩=false:=by
 simp [World.cell?,World.frozen?,h]
theorem gm {fn:Func} {p:Tmp} (h:fn.results=#[.cell p 71]) {tmps:Array Value} {w:World} {g:Nat} {x0 x1 x2 x3 x4:Value} {t:TypeId}
 (hp:tmps.getD p undef=.pointer (some ⟨g,0,none⟩))(hg:w.heap[g]?=some (.cells #[x0,x1,x2,x3,x4] t (0,0))):(results fn tmps).run Tryz.prog w=.ok (.agg #[x0,x1,x2,x3,x4]) w:=by
 have hp':tmps[p]?.getD undef=.pointer (some ⟨g,0,none⟩):=by simpa using hp
 have hl:=run_loadVar_row (P:=Tryz.prog) w g t 71 #[x0,x1,x2,x3,x4] (0,0) _ hg Tryz.underlying71 rfl (by show _=some 5;kernel_rfl)
 simp [results,h,hp',asAddr,hl]
theorem mV:(Tryz.prog.info? 71).map (fun i=>(i.zero,i.size,i.bytes))=some (some (.agg #[.int .i64 0,.string ByteArray.empty,.int .i64 0,.slice none 0 0,.int .i64 0]),5,64):=by kernel_rfl
theorem Gf (a:Addr)(n:Nat):(a.add n).block=a.block:=by unfold Addr.add;split <;> rfl
def Reads (w:World)(B size:Nat)(A:Option Addr)(n:Nat)(xs:List Value):Prop :=
 xs.length=n * size∧(0 < n→∃ ad,A=some ad∧ad.block < B∧∀ j u,xs[j]?=some u→w.cell? (ad.add j)=some u)
section
variable {w w':World} {B B' size n:Nat} {A:Option Addr} {xs:List Value}
theorem Reads.none_:Reads w B size A 0 []:=⟨by simp,fun h=>absurd h (by omega)⟩
theorem Reads.keep (h:Reads w B size A n xs)(hk:∀ p:Addr,p.block < B→w'.cell? p=w.cell? p):Reads w' B size A n xs :=
 ⟨h.1,fun hn=>by
   obtain ⟨ad,e,hb,hc⟩:=h.2 hn
   exact ⟨ad,e,hb,fun j u hu=>(hk _ (by rw [Gf];exact hb)).trans (hc j u hu)⟩⟩
theorem Reads.below (h:Reads w B size A n xs)(hb:Below B w w'):Reads w' B size A n xs:=h.keep fun _ hp=>hb.cell hp
theorem Reads.alloc (h:Reads w B size A n xs)(hB:B≤w.heap.size)(o:Obj):Reads (w.alloc o) B size A n xs:=h.keep fun p hp=>World.cell?_alloc_lt w o p (by omega)
theorem Reads.YW {base:Nat} {e:TypeId} {c:Nat} (h:w.ownsRow base e size (.slice A n c) n xs):Reads w w.heap.size size A n xs:=by
 refine ⟨h.1,fun hn=>?_⟩
 obtain ⟨g,cap,hv,_,hlt⟩:=h.form hn
 have hA:A=some ⟨g,0,none⟩:=by injection hv
 subst hA
 exact ⟨_,rfl,hlt,h.cells (g:=g) rfl⟩
end
def Ie (w:World)(g:Nat)(t:TypeId)(cs:Array Value):Prop:=w.heap[g]?=some (.cells cs t (0,0))
section
variable {w w':World} {g:Nat} {t:TypeId} {cs:Array Value}
theorem Ie.frozen (h:Ie w g t cs)(i:Nat):w.frozen? ⟨g,i,none⟩=false:=by
 unfold Ie at h
 simp [World.frozen?,h]
theorem Ie.D7 (h:Ie w g t cs)(i:Nat)(u:Value):Ie (w.setCell ⟨g,i,none⟩ u) g t (cs.setIfInBounds i u):=by
 unfold Ie at h ⊢
 simp [World.setCell,Array.getElem?_modify,h]
end
section
variable {P:Program} (w:World)
theorem wM (base:Nat)(t ty e:TypeId)(i:TypeInfo)(size:Nat)(ht:P.underlying t=some (.slice e))(hi:P.info? e=some i)
 (v:Value)(n:Nat)(xs:List Value)(hown:w.ownsRow base e size v n xs)(c:Nat):(Builtin.append_ #[t,t] ty #[v,.slice none 0 c]).run P w=.ok v w:=by
 rcases hown.2 with ⟨rfl,rfl⟩ | ⟨g,cap,cur,rfl,_,_,hnc,_⟩
 ·simp [Builtin.append_,run_underlying ht,sizeOf,typeInfo,hi,Builtin.lenOf,Builtin.firstCells]
 ·simp [Builtin.append_,run_underlying ht,sizeOf,typeInfo,hi,Builtin.lenOf,Builtin.firstCells,hnc,storeCells]
theorem BC (base:Nat)(t ty e:TypeId)(i:TypeInfo)(z:Value)(size bytes:Nat)(ht:P.underlying t=some (.slice e))(hi:P.info? e=some i)(hz:i.zero=some z)
 (hsize:i.size=size)(hby:i.bytes=bytes)(hzs:z.cells.size=size)(hsz:0 < size)
 (v:Value)(n:Nat)(xs:List Value)(hown:w.ownsRow base e size v n xs)
 (B:Nat)(A:Option Addr)(m c:Nat)(news:List Value)(hr:Reads w B size A m news)(h1:∀ u ∈ news,u.oneCell'=true)
 (h63:n+m≤maxLen)(hbytes:(n+m) * bytes≤140737488355328)(hbase:base≤w.heap.size) :
 ∃ v' w',(Builtin.append_ #[t,t] ty #[v,.slice A m c]).run P w=.ok v' w'∧w'.ownsRow base e size v' (n+m) (xs ++ news)∧w.grownBy w' v.ownBlock ∧
   (v'.ownBlock=v.ownBlock∨v'.ownBlock=some w.heap.size):=by
 rcases A with _ | ad
 ·have hm:m=0:=by
   rcases Nat.eq_zero_or_pos m with h0 | h0
   ·exact h0
   ·obtain ⟨ad,h,_⟩:=hr.2 h0
    cases h
  subst hm
  have hn:news=[]:=List.eq_nil_of_length_eq_zero (by simpa using hr.1)
  subst hn
  exact ⟨v,w,wM w base t ty e i size ht hi v n xs hown c,by simpa using hown,World.grownBy.refl w _,.inl rfl⟩
 ·have hcells:∀ j u,news[j]?=some u→w.cell? (ad.add j)=some u:=by
   intro j u hu
   rcases Nat.eq_zero_or_pos m with h0 | h0
   ·subst h0
    have hn:news=[]:=List.eq_nil_of_length_eq_zero (by simpa using hr.1)
    subst hn
    simp at hu
   ·obtain ⟨ad',h,_,hc⟩:=hr.2 h0
    injection h with h
    subst h
    exact hc j u hu
  obtain ⟨v',w',hrun,h2,h3,_,h5⟩:=run_append_own_at (P:=P) w base t ty e i z size bytes ht hi hz hsize hby hzs hsz v n xs hown ad m c news hr.1 hcells h1 h63 hbytes hbase
  exact ⟨v',w',hrun,h2,h3,h5⟩
theorem uO {o:Oper} {a:Act} {K:Act→World→Prop} {Q:Exit→Act→World→Prop} (s x:Operand)(t:TypeId)
 (ho:o.op=.call { callee:=.builtin .append,args:=#[s,x],argTypes:=#[t,t] })
 (base:Nat)(e:TypeId)(i:TypeInfo)(z:Value)(size bytes:Nat)(ht:P.underlying t=some (.slice e))(hi:P.info? e=some i)(hz:i.zero=some z)
 (hsize:i.size=size)(hby:i.bytes=bytes)(hzs:z.cells.size=size)(hsz:0 < size)
 (v:Value)(n:Nat)(xs:List Value)(hs:a.eval s=v)(hown:w.ownsRow base e size v n xs)
 (B:Nat)(A:Option Addr)(m c:Nat)(news:List Value)(hx:a.eval x=.slice A m c)(hr:Reads w B size A m news)(h1:∀ u ∈ news,u.oneCell'=true)
 (h63:n+m≤maxLen)(hbytes:(n+m) * bytes≤140737488355328)(hbase:base≤w.heap.size)
 (h:∀ v' w',w'.ownsRow base e size v' (n+m) (xs ++ news)→w.grownBy w' v.ownBlock→(v'.ownBlock=v.ownBlock∨v'.ownBlock=some w.heap.size)→K (a.put o.dst v') w'):o.wp P a w K Q:=by
 obtain ⟨v',w',hrun,h2,h3,h4⟩:=BC (P:=P) w base t o.type e i z size bytes ht hi hz hsize hby hzs hsz v n xs hown B A m c news hr h1 h63 hbytes hbase
 unfold Oper.wp execOp
 simp only [ho,resolve,invoke,builtin,Sem.run_bind,Sem.run_pure,Result.andThen_ok,List.map_toArray,List.map_cons,List.map_nil,hs,hx,hrun]
 exact h v' w' h2 h3 h4
theorem gZ {ops:Array Oper} {rest:List Oper} {o:Oper} {a:Act} {Q:Exit→Act→World→Prop} (hgd:o.guard=none)(s x:Operand)(t:TypeId)
 (ho:o.op=.call { callee:=.builtin .append,args:=#[s,x],argTypes:=#[t,t] })
 (base:Nat)(e:TypeId)(i:TypeInfo)(z:Value)(size bytes:Nat)(ht:P.underlying t=some (.slice e))(hi:P.info? e=some i)(hz:i.zero=some z)
 (hsize:i.size=size)(hby:i.bytes=bytes)(hzs:z.cells.size=size)(hsz:0 < size)
 (v:Value)(n:Nat)(xs:List Value)(hs:a.eval s=v)(hown:w.ownsRow base e size v n xs)
 (B:Nat)(A:Option Addr)(m c:Nat)(news:List Value)(hx:a.eval x=.slice A m c)(hr:Reads w B size A m news)(h1:∀ u ∈ news,u.oneCell'=true)
 (h63:n+m≤maxLen)(hbytes:(n+m) * bytes≤140737488355328)(hbase:base≤w.heap.size)
 (h:∀ v' w',w'.ownsRow base e size v' (n+m) (xs ++ news)→w.grownBy w' v.ownBlock→(v'.ownBlock=v.ownBlock∨v'.ownBlock=some w.heap.size)→wpList P ops Q rest (a.put o.dst v') w'):wpList P ops Q (o :: rest) a w :=
 wpList_plain hgd fun _ hK=>uO w s x t ho base e i z size bytes ht hi hz hsize hby hzs hsz v n xs hs hown B A m c news hx hr h1 h63 hbytes hbase fun v' w' h2 h3 h4=>hK _ _ (h v' w' h2 h3 h4)
theorem bU {ops:Array Oper} {o:Oper} {a:Act} {K:Act→World→Prop} {Q:Exit→Act→World→Prop} {E:Prop} (hgd:o.guard=none)(s x:Operand)(t:TypeId)
 (ho:o.op=.call { callee:=.builtin .append,args:=#[s,x],argTypes:=#[t,t] })
 (base:Nat)(e:TypeId)(i:TypeInfo)(z:Value)(size bytes:Nat)(ht:P.underlying t=some (.slice e))(hi:P.info? e=some i)(hz:i.zero=some z)
 (hsize:i.size=size)(hby:i.bytes=bytes)(hzs:z.cells.size=size)(hsz:0 < size)
 (v:Value)(n:Nat)(xs:List Value)(hs:a.eval s=v)(hown:w.ownsRow base e size v n xs)
 (B:Nat)(A:Option Addr)(m c:Nat)(news:List Value)(hx:a.eval x=.slice A m c)(hr:Reads w B size A m news)(h1:∀ u ∈ news,u.oneCell'=true)
 (h63:n+m≤maxLen)(hbytes:(n+m) * bytes≤140737488355328)(hbase:base≤w.heap.size)
 (h:∀ v' w',w'.ownsRow base e size v' (n+m) (xs ++ news)→w.grownBy w' v.ownBlock→(v'.ownBlock=v.ownBlock∨v'.ownBlock=some w.heap.size)→K (a.put o.dst v') w') :
 if Region.wanted o (yielded ops a.tmps)=true then Oper.wp P o a w K Q else E:=by
 have hw:Region.wanted o (yielded ops a.tmps)=true:=by simp [Region.wanted,hgd]
 rw [if_pos hw]
 exact uO w s x t ho base e i z size bytes ht hi hz hsize hby hzs hsz v n xs hs hown B A m c news hx hr h1 h63 hbytes hbase h
end
theorem RP (l:List TP):∀ (j:Nat)(u:Value),(aO l)[j]?=some u→∃ v,l[j / 5]?=some v∧(TP.cs v)[j % 5]?=some u:=by
 induction l with
 | nil=>intro j u h;simp [aO] at h
 | cons x l ih =>
   intro j u h
   have e:aO (x :: l)=TP.cs x ++ aO l:=rfl
   have hl:(TP.cs x).length=5:=rfl
   rw [e] at h
   rcases Nat.lt_or_ge j 5 with hj | hj
   ·rw [List.getElem?_append_left (by omega)] at h
    exact ⟨x,by rw [Nat.div_eq_of_lt hj];rfl,by rw [Nat.mod_eq_of_lt hj];exact h⟩
   ·rw [List.getElem?_append_right (by omega),hl] at h
    obtain ⟨v,h1,h2⟩:=ih _ _ h
    refine ⟨v,?_,?_⟩
    ·rw [show j / 5=(j - 5) / 5+1 by omega,List.getElem?_cons_succ];exact h1
    ·rw [show j % 5=(j - 5) % 5 by omega];exact h2
theorem BD {w:World} {S:Nat→Prop} {B:Nat} (lZ:∀ k,S k→k < B) {A:Option Addr} {l:List T} (h:ku w S A l) :
 ∃ qs:List TP,qs.map Prod.fst=l∧Reads w B 5 A l.length (aO qs)∧∀ q ∈ qs,q.1.kids.length≤q.2.2∧ku w S q.2.1 q.1.kids:=by
 cases h with
 | nil A=>exact ⟨[],rfl,Reads.none_,fun q hq=>by cases hq⟩
 | mk b off l hn hb A c h hk =>
   refine ⟨l.mapIdx fun i e=>(e,A i,c i),?_,⟨?_,fun _=>⟨⟨b,off,none⟩,rfl,lZ b hb,fun j u hu=>?_⟩⟩,fun q hq=>?_⟩
   ·apply List.ext_getElem?
    intro i
    rw [List.getElem?_map,List.getElem?_mapIdx]
    cases l[i]? <;> rfl
   ·rw [fF];simp
   ·obtain ⟨v,h1,h2⟩:=RP _ j u hu
    rw [List.getElem?_mapIdx] at h1
    cases hl:l[j / 5]? with
    | none=>rw [hl] at h1;cases h1
    | some e =>
      rw [hl] at h1
      obtain rfl:=Option.some.inj h1
      obtain ⟨g1,g2,g3,g4,g5,_⟩:=h _ e hl
      have hadd:(⟨b,off,none⟩:Addr).add j=⟨b,off+j,none⟩:=by unfold Addr.add;split <;> simp_all
      rw [hadd,show off+j=off+j / 5 * 5+j % 5 by omega]
      have hr:j % 5 < 5:=Nat.mod_lt _ (by decide)
      generalize j % 5=r at *
      match r,hr,h2 with
      | 0,_,h2=>rw [Nat.add_zero,g1,← h2];rfl
      | 1,_,h2=>rw [g2,← h2];rfl
      | 2,_,h2=>rw [g3,← h2];rfl
      | 3,_,h2=>rw [g4,← h2];rfl
      | 4,_,h2=>rw [g5,← h2];rfl
   ·obtain ⟨i,hi⟩:=List.mem_iff_getElem?.1 hq
    rw [List.getElem?_mapIdx] at hi
    cases hl:l[i]? with
    | none=>rw [hl] at hi;cases hi
    | some e =>
      rw [hl] at hi
      obtain rfl:=Option.some.inj hi
      exact ⟨(h i e hl).2.2.2.2.2,hk i e hl⟩
theorem EG (l:List TP):∀ (i:Nat)(v:TP)(ks:List T)(A:Option Addr)(c:Nat),l[i]?=some v →
 (aO l).set (i * 5+3) (.slice A ks.length c)=aO (l.set i ((.mk v.1.k v.1.s v.1.n ks v.1.at_:T),A,c)):=by
 induction l with
 | nil=>intro i v ks A c h;simp at h
 | cons x l ih =>
   intro i v ks A c h
   have e:aO (x :: l)=TP.cs x ++ aO l:=rfl
   have hl:(TP.cs x).length=5:=rfl
   cases i with
   | zero =>
     obtain rfl:x=v:=by simpa using h
     rw [e,List.set_append_left _ _ (by omega),ani]
     rfl
   | succ i =>
     rw [e,List.set_append_right _ _ (by omega),hl,show (i+1) * 5+3 - 5=i * 5+3 by omega,ih i v ks A c (by simpa using h),anj]
     rfl
theorem Gg {w:World} {base:Nat} {e:TypeId} {g cap m:Nat} {ps:List TP} (h:w.ownsRow base e 5 (.slice (some ⟨g,0,none⟩) m cap) m (aO ps)) {i:Nat} {p:TP} (hi:ps[i]?=some p)(ks:List T)(A:Option Addr)(c:Nat) :
 (w.setCell ⟨g,i * 5+3,none⟩ (.slice A ks.length c)).ownsRow base e 5 (.slice (some ⟨g,0,none⟩) m cap) m (aO (ps.set i ((.mk p.1.k p.1.s p.1.n ks p.1.at_:T),A,c))):=by
 obtain ⟨h1,h2⟩:=h
 have hlen:=fF ps
 refine ⟨by rw [fF,List.length_set,← hlen];exact h1,.inr ?_⟩
 rcases h2 with ⟨h',_⟩ | ⟨g',cap',cur,h',hb,hg,hnc,hcm,hcs,htake⟩
 ·simp at h'
 ·simp only [Value.slice.injEq,Option.some.injEq,Addr.mk.injEq,and_true,true_and] at h'
  obtain ⟨rfl,rfl⟩:=h'
  refine ⟨g,cap,cur.setIfInBounds (i * 5+3) (.slice A ks.length c),rfl,hb,Ie.D7 hg _ _,hnc,hcm,by simpa using hcs,?_⟩
  rw [Array.toList_setIfInBounds,List.take_set,htake,EG ps i p ks A c hi]
theorem IA {w:World} {base:Nat} {e:TypeId} {g cap m:Nat} {ps:List TP} (h:w.ownsRow base e 5 (.slice (some ⟨g,0,none⟩) m cap) m (aO ps))(hm:ps.length=m) {k:Nat} (hk:k≤m) :
 w.ownsRow base e 5 (.slice (some ⟨g,0,none⟩) k cap) k (aO (ps.take k)):=by
 obtain ⟨h1,h2⟩:=h
 refine ⟨by rw [fF,List.length_take];congr 1;omega,.inr ?_⟩
 rcases h2 with ⟨h',_⟩ | ⟨g',cap',cur,h',hb,hg,hnc,hcm,hcs,htake⟩
 ·simp at h'
 ·simp only [Value.slice.injEq,Option.some.injEq,Addr.mk.injEq,and_true,true_and] at h'
  obtain ⟨rfl,rfl⟩:=h'
  refine ⟨g,cap,cur,rfl,hb,hg,by omega,hcm,hcs,?_⟩
  have e1:aO ps=aO (ps.take k) ++ aO (ps.drop k):=by rw [← fZ,List.take_append_drop]
  have e2:(aO (ps.take k)).length=k * 5:=by rw [fF,List.length_take];congr 1;omega
  have e3:List.take (k * 5) cur.toList=List.take (k * 5) (List.take (m * 5) cur.toList):=by rw [List.take_take];congr 1;omega
  rw [e3,htake,e1,List.take_left' e2]
end Go.Proofs.YtjhkihkiebnpaaaGreatDoor
namespace Go.Proofs.YtjhkihkiebnpaaaGreatDoor
open Go.RowKit
def jT (c:UInt8):Bool:=decide (97≤(c.toNat:Int)) && decide ((c.toNat:Int)≤122)
def jr (c:UInt8):Bool:=decide (48≤(c.toNat:Int)) && decide ((c.toNat:Int)≤57)
def bt (s:ByteArray)(i:Nat):UInt8:=if h:i < s.size then s[i] else 0
theorem oZ {s:ByteArray} {i:Nat} (h:i < s.size):bt s i=s[i]:=dif_pos h
def iQ (p:UInt8→Bool)(s:ByteArray)(i:Nat):Nat:=if i < s.size then (if p (bt s i) then iQ p s (i+1) else i) else i
termination_by s.size - i
theorem rC {p:UInt8→Bool} {s:ByteArray} {i:Nat} (h:¬ i < s.size):iQ p s i=i:=by rw [iQ,if_neg h]
theorem o7 {p:UInt8→Bool} {s:ByteArray} {i:Nat} (h:p (bt s i)=false):iQ p s i=i:=by
 rw [iQ]
 split
 ·rw [h];rfl
 ·rfl
theorem mW {p:UInt8→Bool} {s:ByteArray} {i:Nat} (h:i < s.size)(hp:p (bt s i)=true):iQ p s i=iQ p s (i+1):=by
 rw [iQ,if_pos h,hp]
 rfl
theorem nP {p:UInt8→Bool} {s:ByteArray}:∀ (n i:Nat),s.size - i=n→i≤iQ p s i∧(i≤s.size→iQ p s i≤s.size)
 | n,i,hn=>by
   by_cases h:i < s.size
   ·cases hp:p (bt s i)
    ·rw [o7 hp];exact ⟨ank _,fun h=>h⟩
    ·obtain ⟨m,rfl⟩:∃ m,n=m+1:=⟨n - 1,by omega⟩
     have:=nP (p:=p) (s:=s) m (i+1) (by omega)
     rw [mW h hp]
     exact ⟨by omega,fun _=>this.2 (by omega)⟩
   ·rw [rC h];exact ⟨ank _,fun h=>h⟩
theorem N8 {p:UInt8→Bool} {s:ByteArray} {i:Nat} (h:i < s.size)(hp:p (bt s i)=true):i < iQ p s i:=by
 rw [mW h hp]
 have:=(nP (p:=p) (s:=s) _ (i+1) rfl).1
 omega
def gK (s:ByteArray)(i:Nat):Nat:=if ((bt s i).toNat:Int)=45 then i+1 else i
def gQ (s:ByteArray)(i:Nat):Option (Int×Nat) :=
 if iQ jr s (gK s i)=gK s i then none else
  match Lib.parseIntB 64 (s.extract i (iQ jr s (gK s i))).data.toList with
  | .ok v=>some (v,iQ jr s (gK s i))
  | _=>none
def hexDigits:ByteArray:=⟨#[48,49,50,51,52,53,54,55,56,57,97,98,99,100,101,102]⟩
def jf (c:UInt8):Int:=Lib.indexByte hexDigits.data.toList c
def KW (b:UInt8):Value:=.int .u8 (b.toNat:Int)
def BF (l:List UInt8):List Value:=l.map KW
def vk (a b:Int):UInt8:=UInt8.ofNat (IntKind.u8.wrap (bits .or .i64 (IntKind.i64.wrap (a * 16)) b)).toNat
theorem RQ (a b:Int):KW (vk a b)=.int .u8 (IntKind.u8.wrap (bits .or .i64 (IntKind.i64.wrap (a * 16)) b)):=by
 unfold vk KW
 generalize bits .or .i64 (IntKind.i64.wrap (a * 16)) b=x
 have h:0≤IntKind.u8.wrap x∧IntKind.u8.wrap x < 256:=by
  unfold IntKind.wrap
  simp [IntKind.bits,IntKind.signed]
  omega
 congr 1
 rw [UInt8.toNat_ofNat']
 omega
def fO (s:ByteArray)(p:Nat)(i:Nat)(l:List UInt8):List UInt8×Nat×Int×Int :=
 if i < s.size then
  (if ((bt s i).toNat:Int)=34 then (if 40 < l.length then ([],0,3,p) else (l,i+1,0,0))
   else if ((bt s i).toNat:Int)=92 then
    (if i+1 < s.size then
      (if jf (bt s (i+1)) < 0 then ([],0,12,i)
       else if i+2 < s.size then
        (if jf (bt s (i+2)) < 0 then ([],0,12,i) else fO s p (i+3) (l ++ [vk (jf (bt s (i+1))) (jf (bt s (i+2)))]))
       else ([],0,10,s.size))
     else ([],0,10,s.size))
   else if ((bt s i).toNat:Int) < 32∨126 < ((bt s i).toNat:Int) then ([],0,12,i)
   else fO s p (i+1) (l ++ [bt s i]))
 else ([],0,10,s.size)
termination_by s.size - i
def textE (s:ByteArray)(p:Nat):List UInt8×Nat×Int×Int:=fO s p (p+1) []
theorem yN {s:ByteArray} {p i:Nat} {l:List UInt8} (h:¬ i < s.size):fO s p i l=([],0,10,(s.size:Int)):=by rw [fO,if_neg h]
theorem nR {s:ByteArray} {p i:Nat} {l:List UInt8} (h:i < s.size)(qR:((bt s i).toNat:Int)=34):fO s p i l=if 40 < l.length then ([],0,3,(p:Int)) else (l,i+1,0,0):=by
 rw [fO,if_pos h,if_pos qR]
theorem uf {s:ByteArray} {p i:Nat} {l:List UInt8} (h:i < s.size)(qR:¬ ((bt s i).toNat:Int)=34)(BG:¬ ((bt s i).toNat:Int)=92)(hb:((bt s i).toNat:Int) < 32∨126 < ((bt s i).toNat:Int)):fO s p i l=([],0,12,(i:Int)):=by
 rw [fO,if_pos h,if_neg qR,if_neg BG,if_pos hb]
theorem pY {s:ByteArray} {p i:Nat} {l:List UInt8} (h:i < s.size)(qR:¬ ((bt s i).toNat:Int)=34)(BG:¬ ((bt s i).toNat:Int)=92)(hb:¬ (((bt s i).toNat:Int) < 32∨126 < ((bt s i).toNat:Int))):fO s p i l=fO s p (i+1) (l ++ [bt s i]):=by
 rw [fO,if_pos h,if_neg qR,if_neg BG,if_neg hb]
theorem ug {s:ByteArray} {p i:Nat} {l:List UInt8} (h:i < s.size)(BG:((bt s i).toNat:Int)=92):fO s p i l =
 (if i+1 < s.size then
       (if jf (bt s (i+1)) < 0 then ([],0,12,(i:Int))
        else if i+2 < s.size then
         (if jf (bt s (i+2)) < 0 then ([],0,12,(i:Int)) else fO s p (i+3) (l ++ [vk (jf (bt s (i+1))) (jf (bt s (i+2)))]))
        else ([],0,10,(s.size:Int)))
     else ([],0,10,(s.size:Int))):=by
 rw [fO,if_pos h,if_neg (by omega),if_pos BG]
theorem D8 {s:ByteArray} {p i m:Nat} {l:List UInt8} (h:i < s.size)(BG:((bt s i).toNat:Int)=92)(hm:m=1∨m=2)(hp:m=2→i+1 < s.size∧¬ jf (bt s (i+1)) < 0) :
 (¬ i+m < s.size→fO s p i l=([],0,10,(s.size:Int)))∧(i+m < s.size→jf (bt s (i+m)) < 0→fO s p i l=([],0,12,(i:Int))):=by
 rw [ug h BG]
 rcases hm with rfl | rfl
 ·exact ⟨fun h1=>by rw [if_neg h1],fun h1 h2=>by rw [if_pos h1,if_pos h2]⟩
 ·obtain ⟨h1,h2⟩:=hp rfl
  exact ⟨fun h3=>by rw [if_pos h1,if_neg h2,if_neg h3],fun h3 h4=>by rw [if_pos h1,if_neg h2,if_pos h3,if_pos h4]⟩
theorem zX {s:ByteArray} {p i:Nat} {l:List UInt8} (h:i < s.size)(BG:((bt s i).toNat:Int)=92)(h1:i+1 < s.size)(h2:¬ jf (bt s (i+1)) < 0)(h3:i+2 < s.size)(h4:¬ jf (bt s (i+2)) < 0) :
 fO s p i l=fO s p (i+3) (l ++ [vk (jf (bt s (i+1))) (jf (bt s (i+2)))]):=by
 rw [ug h BG,if_pos h1,if_neg h2,if_pos h3,if_neg h4]
theorem BH (s:ByteArray)(p:Nat):∀ (n i:Nat)(l:List UInt8),s.size - i=n→i≤s.size→p≤s.size→p < i→l.length≤i →
 ((fO s p i l).2.2.1=0→p < (fO s p i l).2.1∧(fO s p i l).2.1≤s.size)∧((fO s p i l).2.2.1≠0→0≤(fO s p i l).2.2.2∧(fO s p i l).2.2.2≤s.size)∧(fO s p i l).1.length≤40∧(fO s p i l).2.1≤s.size:=by
 intro n
 induction n using Nat.strongRecOn with
 | _ n ih =>
   intro i l hn hi hp hpi hl
   by_cases h:i < s.size
   ·by_cases qR:((bt s i).toNat:Int)=34
    ·rw [nR h qR]
     split
     ·exact ⟨fun h=>by simp at h,fun _=>⟨by simp only;omega,by simp only;omega⟩,by simp,by simp⟩
     ·exact ⟨fun _=>⟨by simp only;omega,by simp only;omega⟩,fun h=>by simp at h,by simp only;omega,by simp only;omega⟩
    ·by_cases BG:((bt s i).toNat:Int)=92
     ·rw [ug h BG]
      by_cases h1:i+1 < s.size
      ·rw [if_pos h1]
       by_cases h2:jf (bt s (i+1)) < 0
       ·rw [if_pos h2]
        exact ⟨fun h=>by simp at h,fun _=>⟨by simp only;omega,by simp only;omega⟩,by simp,by simp⟩
       ·rw [if_neg h2]
        by_cases h3:i+2 < s.size
        ·rw [if_pos h3]
         by_cases h4:jf (bt s (i+2)) < 0
         ·rw [if_pos h4]
          exact ⟨fun h=>by simp at h,fun _=>⟨by simp only;omega,by simp only;omega⟩,by simp,by simp⟩
         ·rw [if_neg h4]
          exact ih (s.size - (i+3)) (by omega) (i+3) _ rfl (by omega) hp (by omega) (by simp;omega)
        ·rw [if_neg h3]
         exact ⟨fun h=>by simp at h,fun _=>⟨by simp only;omega,by simp only;omega⟩,by simp,by simp⟩
      ·rw [if_neg h1]
       exact ⟨fun h=>by simp at h,fun _=>⟨by simp only;omega,by simp only;omega⟩,by simp,by simp⟩
     ·by_cases hb:((bt s i).toNat:Int) < 32∨126 < ((bt s i).toNat:Int)
      ·rw [uf h qR BG hb]
       exact ⟨fun h=>by simp at h,fun _=>⟨by simp only;omega,by simp only;omega⟩,by simp,by simp⟩
      ·rw [pY h qR BG hb]
       exact ih (s.size - (i+1)) (by omega) (i+1) _ rfl (by omega) hp (by omega) (by simp;omega)
   ·rw [yN h]
    exact ⟨fun h=>by simp at h,fun _=>⟨by simp only;omega,by simp only;omega⟩,by simp,by simp⟩
def dO (s:ByteArray)(i:Nat)(wh:Bool):T×Int×Int×Int :=
 if wh && (jT (bt s i) || jr (bt s i) || decide (((bt s i).toNat:Int)=45) || decide (((bt s i).toNat:Int)=34)) then (.mk 0 ⟨#[]⟩ 0 [] i,i+1,11,i)
 else if jT (bt s i) then (.mk 2 (s.extract i (iQ jT s i)) 0 [] i,iQ jT s i,0,0)
 else if jr (bt s i) || decide (((bt s i).toNat:Int)=45) then
  (match gQ s i with
    | some (n,e)=>(.mk 3 ⟨#[]⟩ n [] i,e,0,0)
    | none=>(.mk 3 ⟨#[]⟩ 0 [] i,-1,12,i))
 else if ((bt s i).toNat:Int)=34 then (.mk 4 ⟨(textE s i).1.toArray⟩ 0 [] i,(textE s i).2.1,(textE s i).2.2.1,(textE s i).2.2.2)
 else (.mk 0 ⟨#[]⟩ 0 [] i,i+1,12,i)
def T.kid (p t:T):T:=.mk p.k p.s p.n (p.kids ++ [t]) p.at_
def kT (op dn:List T)(t:T):List T×List T :=
 match op[op.length - 1]? with
 | some p=>(op.set (op.length - 1) (p.kid t),dn)
 | none=>(op,dn ++ [t])
def aH:T:=.mk 0 ⟨#[]⟩ 0 [] 0
def bf (s:ByteArray)(op dn:List T)(i:Nat):T×Int×Int :=
 if h:i < s.size then
  (if ((bt s i).toNat:Int)=32∨((bt s i).toNat:Int)=10 then bf s op dn (i+1)
   else if ((bt s i).toNat:Int)=40 then
    (if 12≤op.length then (aH,14,i) else if 0 < dn.length then (aH,11,i) else bf s (op ++ [.mk 1 ⟨#[]⟩ 0 [] i]) dn (i+1))
   else if ((bt s i).toNat:Int)=41 then
    (match op[op.length - 1]? with
      | some t=>bf s (kT (op.take (op.length - 1)) dn t).1 (kT (op.take (op.length - 1)) dn t).2 (i+1)
      | none=>(aH,12,i))
   else if (dO s i (decide (0 < dn.length))).2.2.1=0 then
    (if hj:(i:Int) < (dO s i (decide (0 < dn.length))).2.1 then
      bf s (kT op dn (dO s i (decide (0 < dn.length))).1).1 (kT op dn (dO s i (decide (0 < dn.length))).1).2 (dO s i (decide (0 < dn.length))).2.1.toNat
     else (aH,0,0))
   else (aH,(dO s i (decide (0 < dn.length))).2.2.1,(dO s i (decide (0 < dn.length))).2.2.2))
 else if 0 < op.length then (aH,10,s.size)
 else (match dn with
  | t :: _=>(t,0,0)
  | []=>(aH,10,s.size))
termination_by s.size - i
decreasing_by all_goals omega
structure Ag where
 nm:ByteArray
 fn:ByteArray
 vw:ByteArray
inductive P where
 | mk (k:Int)(nm:ByteArray)(ex:List E)(cols left right:List ByteArray)(ag:List Ag)(kids:List P)
def P.k:P→Int | .mk k _ _ _ _ _ _ _=>k
def P.nm:P→ByteArray | .mk _ s _ _ _ _ _ _=>s
def P.ex:P→List E | .mk _ _ l _ _ _ _ _=>l
def P.cols:P→List ByteArray | .mk _ _ _ l _ _ _ _=>l
def P.left:P→List ByteArray | .mk _ _ _ _ l _ _ _=>l
def P.right:P→List ByteArray | .mk _ _ _ _ _ l _ _=>l
def P.ag:P→List Ag | .mk _ _ _ _ _ _ l _=>l
def P.kids:P→List P | .mk _ _ _ _ _ _ _ l=>l
theorem P.ind {M:P→Prop} (h:∀ k nm ex cols left right ag kids,(∀ e ∈ kids,M e)→M (.mk k nm ex cols left right ag kids)):∀ e,M e:=by
 intro e
 exact P.rec (motive_1:=M) (motive_2:=fun l=>∀ e ∈ l,M e) (fun k nm ex cols left right ag kids ih=>h k nm ex cols left right ag kids ih) (fun e he=>by cases he) (fun e l h1 h2 x hx=>by
  rcases List.mem_cons.1 hx with rfl | hx
  ·exact h1
  ·exact h2 x hx) e
def P.put (p:P)(ks:List P):P:=.mk p.k p.nm p.ex p.cols p.left p.right p.ag ks
def bW:P:=.mk 0 ⟨#[]⟩ [] [] [] [] [] []
def jU:List UInt8:=[116,97,98,108,101]
def iK:List UInt8:=[102,105,108,116,101,114]
def ig:List UInt8:=[112,114,111,106,101,99,116]
def nS:List UInt8:=[106,111,105,110]
def jJ:List UInt8:=[117,110,105,111,110]
def dW:List UInt8:=[100,105,115,116,105,110,99,116]
def kK:List UInt8:=[103,114,111,117,112]
def nz:List UInt8:=[115,117,109]
def rD:List UInt8:=[109,105,110]
def rE:List UInt8:=[109,97,120]
def dQ:List UInt8:=[99,111,117,110,116]
def jK:List (List UInt8):=[jU,iK,ig,nS,jJ,dW,kK]
theorem BI (l:List UInt8):l ∈ jK∨∀ x ∈ jK,(l == x)=false:=by
 by_cases h:l ∈ jK
 ·exact .inl h
 ·refine .inr fun x hx=>?_
  cases e:l == x
  ·rfl
  ·rw [show l=x by simpa using e] at h
   exact absurd hx h
def zY (l:List T):Int:=match l with | []=>0 | x :: _=>x.k
def o8 (k:Int)(l:List T):ByteArray:=match l with | []=>⟨#[]⟩ | x :: _=>if k=1∧x.k=2 then x.s else ⟨#[]⟩
def iR (t:T):ByteArray:=o8 t.k t.kids
def eP (t:T):Bool:=t.k == 1 && t.kids.all fun x=>x.k == 2
def aW (t:T):Bool:=t.k == 1 && (t.kids.length == 2 && zY t.kids == 2)
def ik (t:T):Bool:=eP t && (t.kids.length == 2 || t.kids.length == 3)
def bT (l:List T)(i:Nat):List T:=(l.drop i).take (l.length - 1 - i)
def bY (w:List UInt8)(l:List T):Int :=
 if w=jU then (if l.length=2∧(l.getD 1 aH).k=2 then 1 else 0)
 else if w=iK then (if l.length=3 then 2 else 0)
 else if w=ig then (if 3≤l.length∧(bT l 1).all aW=true then 3 else 0)
 else if w=nS then (if l.length=5∧eP (l.getD 1 aH)=true∧eP (l.getD 2 aH)=true then 4 else 0)
 else if w=jJ then (if l.length=3 then 5 else 0)
 else if w=dW then (if l.length=2 then 6 else 0)
 else if w=kK then (if 3≤l.length∧eP (l.getD 1 aH)=true∧(bT l 2).all ik=true then 7 else 0)
 else 0
def fA (t:T):Int:=bY (iR t).toList t.kids
abbrev eY:=Int×Int
def rF (e a:Int)(s:eY):eY:=if s.1=0 then (e,a) else s
def eF (t:T)(s:eY):eY:=if nameB t.s then s else rF 20 t.at_ s
def dY (l:List T)(s:eY):eY:=l.foldl (fun s t=>eF t s) s
def kW (t:T)(s:eY):eY:=if (aI t).2.1=0 then s else rF (aI t).2.1 (aI t).2.2 s
def lM (l:List T):Bool:=if l.length=2 then (l.getD 1 aH).s.toList == dQ
 else ((l.getD 1 aH).s.toList == nz || (l.getD 1 aH).s.toList == rD) || (l.getD 1 aH).s.toList == rE
def kU (l:List T):Ag:=⟨(l.getD 0 aH).s,(l.getD 1 aH).s,if l.length=3 then (l.getD 2 aH).s else ⟨#[]⟩⟩
def lN (l:List T)(s:eY):eY:=if lM l then eF (l.getD 0 aH) s else rF 12 (l.getD 1 aH).at_ (eF (l.getD 0 aH) s)
def mg (l:List T)(s:eY):eY:=if l.length=3 then eF (l.getD 2 aH) (lN l s) else lN l s
def rG (t:T)(s:eY):eY:=kW (t.kids.getD 1 aH) (eF (t.kids.getD 0 aH) s)
def nT (l:List T)(s:eY):eY:=l.foldl (fun s t=>rG t s) s
def l7 (l:List T)(s:eY):eY:=l.foldl (fun s t=>mg t.kids s) s
def aT (kd:Int)(l:List T):P :=
 if kd=1 then .mk 1 (l.getD 1 aH).s [] [] [] [] [] []
 else if kd=2 then .mk 2 ⟨#[]⟩ [(aI (l.getD 1 aH)).1] [] [] [] [] []
 else if kd=3 then .mk 3 ⟨#[]⟩ ((bT l 1).map fun c=>(aI (c.kids.getD 1 aH)).1) ((bT l 1).map fun c=>(c.kids.getD 0 aH).s) [] [] [] []
 else if kd=4 then .mk 4 ⟨#[]⟩ [] [] ((l.getD 1 aH).kids.map T.s) ((l.getD 2 aH).kids.map T.s) [] []
 else if kd=7 then .mk 7 ⟨#[]⟩ [] [] ((l.getD 1 aH).kids.map T.s) [] ((bT l 2).map fun c=>kU c.kids) []
 else .mk kd ⟨#[]⟩ [] [] [] [] [] []
def dM (kd:Int)(l:List T)(a:Int)(s:eY):eY :=
 if kd=1 then eF (l.getD 1 aH) s
 else if kd=2 then kW (l.getD 1 aH) s
 else if kd=3 then nT (bT l 1) s
 else if kd=4 then dY (l.getD 2 aH).kids (dY (l.getD 1 aH).kids s)
 else if kd=5 then s
 else if kd=6 then s
 else if kd=7 then l7 (bT l 2) (dY (l.getD 1 aH).kids s)
 else rF 12 a s
def aJ (kd:Int):Nat:=if kd=4∨kd=5 then 2 else if kd=2∨kd=3∨kd=6∨kd=7 then 1 else 0
mutual
def aX:T→eY→P×eY
 | .mk k s n l a,st=>((aT (fA (.mk k s n l a)) l).put (bM l (l.length - aJ (fA (.mk k s n l a))) (dM (fA (.mk k s n l a)) l a st)).1,
    (bM l (l.length - aJ (fA (.mk k s n l a))) (dM (fA (.mk k s n l a)) l a st)).2)
def bM:List T→Nat→eY→List P×eY
 | [],_,st=>([],st)
 | x :: l,m,st=>match m with
   | 0=>((aX x st).1 :: (bM l 0 (aX x st).2).1,(bM l 0 (aX x st).2).2)
   | m+1=>bM l m st
end
theorem jg:∀ (l:List T)(m:Nat)(st:eY),bM l m st=bM (l.drop m) 0 st
 | [],m,st=>by rw [List.drop_nil];cases m <;> simp only [bM]
 | x :: l,0,st=>by rw [List.drop_zero]
 | x :: l,m+1,st=>by rw [bM,List.drop_succ_cons];exact jg l m st
theorem KX {l:List T} {j:Nat} {x:T} (h:l[j]?=some x)(st:eY) :
 bM (l.drop j) 0 st=((aX x st).1 :: (bM (l.drop (j+1)) 0 (aX x st).2).1,(bM (l.drop (j+1)) 0 (aX x st).2).2):=by
 obtain ⟨h1,e1⟩:=List.getElem?_eq_some_iff.1 h
 rw [List.drop_eq_getElem_cons h1,e1,bM]
theorem bz.sub {w:World} {B b off:Nat} {l:List T} (h:bz w B (some ⟨b,off,none⟩) l)(i m:Nat):bz w B (some ⟨b,off+i * 5,none⟩) ((l.drop i).take m):=by
 cases h with
 | nil A=>simp;exact .nil _
 | mk _ _ _ hn hlt A c h hk =>
   have hget:∀ j e,((l.drop i).take m)[j]?=some e→l[i+j]?=some e:=fun j e he=>by
    rw [List.getElem?_take] at he
    split at he
    ·rw [List.getElem?_drop] at he;exact he
    ·cases he
   refine .mk b (off+i * 5) _ (by rw [List.length_take,List.length_drop];omega) hlt (fun j=>A (i+j)) (fun j=>c (i+j)) (fun j e he=>?_) (fun j e he=>hk _ e (hget j e he))
   have:=h (i+j) e (hget j e he)
   rw [show off+i * 5+j * 5=off+(i+j) * 5 by omega]
   exact this
theorem lh (w:World)(k:Int)(s:ByteArray)(n:Int)(A:Option Addr)(m c:Nat)(a:Int):(w.alloc (.cells #[.int .i64 k,.string s,.int .i64 n,.slice A m c,.int .i64 a] 71)).heap[w.heap.size]?=some (.cells #[.int .i64 k,.string s,.int .i64 n,.slice A m c,.int .i64 a] 71 (0,0)):=anm w _
theorem aG (w:World)(cs:Array Value)(t:TypeId):Below w.heap.size w (w.alloc (.cells cs t)):=(anl _ _).alloc (ank _) _
theorem D9 (x:T)(A:Option Addr)(c:Nat)(w:World) :
 Calls Tryz.prog 140 #[x.val A c] w fun e w'=>e=.returned (.bool (x.k != 2))∧Below w.heap.size w w':=by
 obtain ⟨k,s,n,l,a⟩:=x
 simp only [T.val,T.k,T.s,T.n,T.kids,T.at_]
 have hb0:=aG w #[.int .i64 k,.string s,.int .i64 n,.slice A l.length c,.int .i64 a] 71
 generalize l.length=m at *
 go_enter Tryz.func140,Tryz.ntmps140
 go_wp2_with fail
 go_ret
 exact ⟨rfl,hb0⟩
theorem Az (A:Option Addr)(c:Nat)(l:List T)(w:World)(hA:bz w w.heap.size A l) :
 Calls Tryz.prog 161 #[.slice A l.length c,.func (.func 140) #[] #[]] w fun e w' =>
  e=.returned (.int .i64 (idx (fun e:T=>e.k != 2) l 0))∧Below w.heap.size w w':=by
 have hn:=hA.len
 have HL:=anc hA.cu
 obtain ⟨n,en⟩:∃ n,n=l.length:=⟨_,rfl⟩
 have Hl:=anc en
 rw [← en] at hn ⊢
 clear hA en
 go_enter Tryz.func161,Tryz.ntmps161
 go_wp2_with fail
 go_loopw [8] (fun i wr=>∃ k:Nat,k≤n∧i=.int .i64 k∧Below w.heap.size w wr∧Hid (idx (fun e:T=>e.k != 2) l 0=idx (fun e:T=>e.k != 2) (l.drop k) k)) (fun i _=>n - (intOf i).toNat)
 case atStart=>exact ⟨0,Nat.zero_le _,rfl,anl _ _,rfl⟩
 case round =>
  obtain ⟨k,hk,rfl,hbl,hz⟩:=hrel
  by_cases hlt:k < n
  ·obtain ⟨x,hx⟩:∃ x,l[k]?=some x:=⟨_,anr (by rw [← Hl.out];exact hlt)⟩
   have hst:=anc (hz.out.trans (kH (p:=fun e:T=>e.k != 2) hx))
   obtain ⟨b,o,A',c',rfl,hb,c1,c2,c3,c4,c5,hc',hK⟩:=HL.out wr hbl k x hx
   clear hx hz
   have hs:=hbl.size
   have hcl:=anc (D9 x A' c' wr)
   clear hK
   obtain ⟨xk,xs,xn,xl,xa⟩:=x
   simp only [T.k,T.s,T.n,T.kids,T.at_,T.val] at c1 c2 c3 c4 c5 hc' hcl
   by_cases he:((T.mk xk xs xn xl xa).k != 2)=true
   ·have hst':Hid (idx (fun e:T=>e.k != 2) l 0=(k:Int)):=by
     have:=hst.out
     rwa [if_pos he] at this
    simp only [T.k] at he
    rw [he] at hcl
    clear he hst
    generalize xl.length=xm at *
    go_wp2_with fail
    refine (hcl.out).mono ?_
    rintro e w' ⟨rfl,hb2⟩
    have hb3:=hbl.trans (hb2.mono hs)
    clear hb2
    go_wp2_with fail
    go_ret
    exact ⟨by rw [hst'.out];rfl,hb3⟩
   ·have he':((T.mk xk xs xn xl xa).k != 2)=false:=by simpa using he
    have hst':Hid (idx (fun e:T=>e.k != 2) l 0=idx (fun e:T=>e.k != 2) (l.drop (k+1)) (k+1)):=by
     have:=hst.out
     rwa [if_neg he] at this
    simp only [T.k] at he'
    rw [he'] at hcl
    clear he he' hst
    generalize xl.length=xm at *
    go_wp2_with fail
    refine (hcl.out).mono ?_
    rintro e w' ⟨rfl,hb2⟩
    have hb3:=hbl.trans (hb2.mono hs)
    clear hb2
    go_wp2_with fail
    go_roundw
    case rel=>exact ⟨k+1,by omega,by go_num,hb3,hst'⟩
    case measure=>simp [intOf];omega
  ·go_wp2_with fail
   go_ret
   have e:k=n:=by omega
   subst e
   exact ⟨by rw [hz.out,List.drop_of_length_le (by rw [← Hl.out];omega)];rfl,hbl⟩
theorem vz (A:Option Addr)(c:Nat)(l:List T)(w:World)(hA:bz w w.heap.size A l) :
 Calls Tryz.prog 138 #[.slice A l.length c,.func (.func 140) #[] #[]] w fun e w' =>
  e=.returned (.bool (l.any fun e:T=>e.k != 2))∧Below w.heap.size w w':=by
 have hc:=anc (Az A c l w hA)
 rw [← wK (fun e:T=>e.k != 2) l 0]
 clear hA
 generalize idx (fun e:T=>e.k != 2) l 0=r at *
 generalize l.length=m at *
 go_enter Tryz.func138,Tryz.ntmps138
 go_wp2_with fail
 refine (hc.out).mono ?_
 rintro e w' ⟨rfl,hb⟩
 have HB:=anc hb
 clear hb
 go_wp2_with fail
 go_ret
 exact ⟨rfl,HB.out⟩
theorem Gh {α:Type} (p:α→Bool)(l:List α):(!(l.any fun v=>!p v))=l.all p:=by rw [← Bz,Bool.not_not]
theorem O8 (k:Int)(s:ByteArray)(n:Int)(l:List T)(a:Int):eP (.mk k s n l a)=(k == 1 && !(l.any fun e=>e.k != 2)):=by
 show _=(k == 1 && !(l.any fun v=>!(v.k == 2)))
 rw [Gh fun e:T=>e.k == 2]
 rfl
theorem uh (t:T)(A:Option Addr)(c:Nat)(w:World)(hA:bz w w.heap.size A t.kids) :
 Calls Tryz.prog 104 #[t.val A c] w fun e w'=>e=.returned (.bool (eP t))∧Below w.heap.size w w':=by
 obtain ⟨k,s,n,l,a⟩:=t
 rw [O8]
 change bz w w.heap.size A l at hA
 have hb0:=aG w #[.int .i64 k,.string s,.int .i64 n,.slice A l.length c,.int .i64 a] 71
 have hcf:=anc (vz A c l _ ((hA.low hb0).more hb0.size))
 have HB0:=anc hb0
 clear hA hb0
 generalize (l.any fun e=>e.k != 2)=q at *
 simp only [T.val,T.k,T.s,T.n,T.kids,T.at_]
 generalize l.length=m at *
 by_cases h1:k=1
 ·subst h1
  go_enter Tryz.func104,Tryz.ntmps104
  go_wp2_with fail
  refine (hcf.out).mono ?_
  rintro e w' ⟨rfl,hb⟩
  have HB:=anc (HB0.out.trans (hb.mono HB0.out.size))
  clear hb
  cases q
  all_goals
   go_wp2_with fail
   go_ret
   exact ⟨rfl,HB.out⟩
 ·have h1':(k == 1)=false:=by simpa using h1
  go_enter Tryz.func104,Tryz.ntmps104
  go_wp2_with fail
  go_ret
  exact ⟨by rw [h1'];rfl,HB0.out⟩
theorem EH {l:List T} {x:T} (h:l[0]?=some x):zY l=x.k:=by
 cases l with
 | nil=>simp at h
 | cons y l=>simp at h;subst h;rfl
theorem KY (t:T)(A:Option Addr)(c:Nat)(w:World)(hA:bz w w.heap.size A t.kids) :
 Calls Tryz.prog 103 #[t.val A c] w fun e w'=>e=.returned (.bool (aW t))∧Below w.heap.size w w':=by
 obtain ⟨k,s,n,l,a⟩:=t
 simp only [T.val,T.k,T.s,T.n,T.kids,T.at_] at hA ⊢
 have hb0:=aG w #[.int .i64 k,.string s,.int .i64 n,.slice A l.length c,.int .i64 a] 71
 have hlen:=hA.len
 by_cases h1:k=1
 ·subst h1
  by_cases h2:l.length=2
  ·obtain ⟨x,hx⟩:∃ x,l[0]?=some x:=⟨_,anr (by omega)⟩
   obtain ⟨b,o,A',c',rfl,hb,c1,c2,c3,c4,c5,hc',hK⟩:=hA.cu _ (anl _ _) 0 x hx
   rw [Nat.zero_mul,Nat.add_zero] at c1
   have d1:=(hb0.cell hb).trans c1
   rw [show aW (.mk 1 s n l a)=(x.k == 2) from by
    show ((1:Int) == 1 && (l.length == 2 && zY l == 2))=(x.k == 2)
    rw [h2,EH hx];rfl]
   have HB0:=anc hb0
   obtain ⟨xk,xs,xn,xl,xa⟩:=x
   simp only [T.k,T.s,T.n,T.kids,T.at_] at c1 d1 ⊢
   clear hb0 hA hK hc' hlen hx c2 c3 c4 c5
   generalize l.length=m at *
   subst h2
   by_cases hx2:xk=2
   ·subst hx2
    go_enter Tryz.func103,Tryz.ntmps103
    go_wp2_with fail
    go_ret
    exact ⟨rfl,HB0.out⟩
   ·have RS:(xk == 2)=false:=by simpa using hx2
    rw [RS]
    go_enter Tryz.func103,Tryz.ntmps103
    go_wp2_with fail
    go_ret
    exact ⟨rfl,HB0.out⟩
  ·rw [show aW (.mk 1 s n l a)=false from by
    show ((1:Int) == 1 && (l.length == 2 && zY l == 2))=false
    rw [show (l.length == 2)=false from by simpa using h2];rfl]
   have h2':((l.length:Int) == 2)=false:=by
    rw [beq_eq_false_iff_ne];omega
   have HB0:=anc hb0
   clear hb0 hA h2
   generalize l.length=m at *
   go_enter Tryz.func103,Tryz.ntmps103
   go_wp2_with fail
   go_ret
   exact ⟨rfl,HB0.out⟩
 ·have h1':(k == 1)=false:=by simpa using h1
  rw [show aW (.mk k s n l a)=false from by
   show (k == 1 && (l.length == 2 && zY l == 2))=false
   rw [h1'];rfl]
  have HB0:=anc hb0
  clear hb0 hA
  generalize l.length=m at *
  go_enter Tryz.func103,Tryz.ntmps103
  go_wp2_with fail
  go_ret
  exact ⟨rfl,HB0.out⟩
theorem VO (t:T)(A:Option Addr)(c:Nat)(w:World)(hA:bz w w.heap.size A t.kids) :
 Calls Tryz.prog 105 #[t.val A c] w fun e w'=>e=.returned (.bool (ik t))∧Below w.heap.size w w':=by
 have hb0:=aG w #[.int .i64 t.k,.string t.s,.int .i64 t.n,.slice A t.kids.length c,.int .i64 t.at_] 71
 have hat:=anc (uh t A c _ ((hA.low hb0).more hb0.size))
 rw [show ik t=(eP t && (t.kids.length == 2 || t.kids.length == 3)) from rfl]
 have hlen:=hA.len
 have HB0:=anc hb0
 clear hA hb0
 generalize eP t=q at *
 obtain ⟨k,s,n,l,a⟩:=t
 simp only [T.val,T.k,T.s,T.n,T.kids,T.at_] at *
 generalize l.length=m at *
 have h5:=lh w k s n A m c a
 by_cases h2:m=2
 ·subst h2
  go_enter Tryz.func105,Tryz.ntmps105
  go_wp2_with fail
  refine (hat.out).mono ?_
  rintro e w' ⟨rfl,hb⟩
  have HB:=anc (HB0.out.trans (hb.mono HB0.out.size))
  obtain ⟨⟨k0,k1,k2,k3,k4⟩,_,_,_,_,_⟩:=ay ((hb.block w.heap.size (by simp)).trans h5)
  clear hb
  cases q
  all_goals
   go_wp2_with fail
   go_ret
   exact ⟨rfl,HB.out⟩
 ·have h2':((m:Int) == 2)=false:=by rw [beq_eq_false_iff_ne];omega
  have abJ:(m == 2)=false:=by simpa using h2
  by_cases h3:m=3
  ·subst h3
   go_enter Tryz.func105,Tryz.ntmps105
   go_wp2_with fail
   refine (hat.out).mono ?_
   rintro e w' ⟨rfl,hb⟩
   have HB:=anc (HB0.out.trans (hb.mono HB0.out.size))
   obtain ⟨⟨k0,k1,k2,k3,k4⟩,_,_,_,_,_⟩:=ay ((hb.block w.heap.size (by simp)).trans h5)
   clear hb
   cases q
   all_goals
    go_wp2_with fail
    go_ret
    exact ⟨rfl,HB.out⟩
  ·have h3':((m:Int) == 3)=false:=by rw [beq_eq_false_iff_ne];omega
   have aeC:(m == 3)=false:=by simpa using h3
   rw [abJ,aeC]
   go_enter Tryz.func105,Tryz.ntmps105
   go_wp2_with fail
   refine (hat.out).mono ?_
   rintro e w' ⟨rfl,hb⟩
   have HB:=anc (HB0.out.trans (hb.mono HB0.out.size))
   obtain ⟨⟨k0,k1,k2,k3,k4⟩,_,_,_,_,_⟩:=ay ((hb.block w.heap.size (by simp)).trans h5)
   clear hb
   cases q
   all_goals
    go_wp2_with fail
    go_ret
    exact ⟨rfl,HB.out⟩
theorem AA (x:T)(A:Option Addr)(c b o:Nat)(w:World)(hA:bz w w.heap.size A x.kids)(h0:w.cell? ⟨b,o,none⟩=some (.func (.func 103) #[] #[])) :
 Calls Tryz.prog 139 #[x.val A c,.pointer (some ⟨b,o,none⟩)] w fun e w'=>e=.returned (.bool (!aW x))∧Below w.heap.size w w':=by
 have hb0:=aG w #[.int .i64 x.k,.string x.s,.int .i64 x.n,.slice A x.kids.length c,.int .i64 x.at_] 71
 have hat:=anc (KY x A c _ ((hA.low hb0).more hb0.size))
 have hp:=block_lt_of_cell h0
 have h0':=(hb0.cell hp).trans h0
 have HB0:=anc hb0
 clear hA hb0
 generalize aW x=q at *
 obtain ⟨k,s,n,l,a⟩:=x
 simp only [T.val,T.k,T.s,T.n,T.kids,T.at_] at *
 generalize l.length=m at *
 go_enter Tryz.func139,Tryz.ntmps139
 go_wp2_with fail
 refine (hat.out).mono ?_
 rintro e w' ⟨rfl,hb⟩
 have HB:=anc (HB0.out.trans (hb.mono HB0.out.size))
 clear hb
 go_wp2_with fail
 go_ret
 exact ⟨rfl,HB.out⟩
theorem wO (A:Option Addr)(c:Nat)(l:List T)(pb po:Nat)(w:World)(hA:bz w w.heap.size A l)(h0:w.cell? ⟨pb,po,none⟩=some (.func (.func 103) #[] #[])) :
 Calls Tryz.prog 161 #[.slice A l.length c,.func (.func 139) #[] #[.pointer (some ⟨pb,po,none⟩)]] w fun e w' =>
  e=.returned (.int .i64 (idx (fun e:T=>!aW e) l 0))∧Below w.heap.size w w':=by
 have hn:=hA.len
 have HL:=anc hA.cu
 obtain ⟨n,en⟩:∃ n,n=l.length:=⟨_,rfl⟩
 have Hl:=anc en
 rw [← en] at hn ⊢
 clear hA en
 go_enter Tryz.func161,Tryz.ntmps161
 go_wp2_with fail
 go_loopw [8] (fun i wr=>∃ k:Nat,k≤n∧i=.int .i64 k∧Below w.heap.size w wr∧Hid (idx (fun e:T=>!aW e) l 0=idx (fun e:T=>!aW e) (l.drop k) k)) (fun i _=>n - (intOf i).toNat)
 case atStart=>exact ⟨0,Nat.zero_le _,rfl,anl _ _,rfl⟩
 case round =>
  obtain ⟨k,hk,rfl,hbl,hz⟩:=hrel
  by_cases hlt:k < n
  ·obtain ⟨x,hx⟩:∃ x,l[k]?=some x:=⟨_,anr (by rw [← Hl.out];exact hlt)⟩
   have hst:=anc (hz.out.trans (kH (p:=fun e:T=>!aW e) hx))
   obtain ⟨b,o,A',c',rfl,hb,c1,c2,c3,c4,c5,hc',hK⟩:=HL.out wr hbl k x hx
   clear hx hz
   have hs:=hbl.size
   have hcl:=anc (AA x A' c' pb po wr hK ((hbl.cell (block_lt_of_cell h0)).trans h0))
   clear hK
   obtain ⟨xk,xs,xn,xl,xa⟩:=x
   simp only [T.k,T.s,T.n,T.kids,T.at_,T.val] at c1 c2 c3 c4 c5 hc' hcl
   by_cases he:(!aW (T.mk xk xs xn xl xa))=true
   ·have hst':Hid (idx (fun e:T=>!aW e) l 0=(k:Int)):=by
     have:=hst.out
     rwa [if_pos he] at this
    rw [he] at hcl
    clear he hst
    generalize xl.length=xm at *
    go_wp2_with fail
    refine (hcl.out).mono ?_
    rintro e w' ⟨rfl,hb2⟩
    have hb3:=hbl.trans (hb2.mono hs)
    clear hb2
    go_wp2_with fail
    go_ret
    exact ⟨by rw [hst'.out];rfl,hb3⟩
   ·have he':(!aW (T.mk xk xs xn xl xa))=false:=by simpa using he
    have hst':Hid (idx (fun e:T=>!aW e) l 0=idx (fun e:T=>!aW e) (l.drop (k+1)) (k+1)):=by
     have:=hst.out
     rwa [if_neg he] at this
    rw [he'] at hcl
    clear he he' hst
    generalize xl.length=xm at *
    go_wp2_with fail
    refine (hcl.out).mono ?_
    rintro e w' ⟨rfl,hb2⟩
    have hb3:=hbl.trans (hb2.mono hs)
    clear hb2
    go_wp2_with fail
    go_roundw
    case rel=>exact ⟨k+1,by omega,by go_num,hb3,hst'⟩
    case measure=>simp [intOf];omega
  ·go_wp2_with fail
   go_ret
   have e:k=n:=by omega
   subst e
   exact ⟨by rw [hz.out,List.drop_of_length_le (by rw [← Hl.out];omega)];rfl,hbl⟩
theorem rH (A:Option Addr)(c:Nat)(l:List T)(pb po:Nat)(w:World)(hA:bz w w.heap.size A l)(h0:w.cell? ⟨pb,po,none⟩=some (.func (.func 103) #[] #[])) :
 Calls Tryz.prog 138 #[.slice A l.length c,.func (.func 139) #[] #[.pointer (some ⟨pb,po,none⟩)]] w fun e w' =>
  e=.returned (.bool (l.any fun e:T=>!aW e))∧Below w.heap.size w w':=by
 have hc:=anc (wO A c l pb po w hA h0)
 rw [← wK (fun e:T=>!aW e) l 0]
 clear hA h0
 generalize idx (fun e:T=>!aW e) l 0=r at *
 generalize l.length=m at *
 go_enter Tryz.func138,Tryz.ntmps138
 go_wp2_with fail
 refine (hc.out).mono ?_
 rintro e w' ⟨rfl,hb⟩
 have HB:=anc hb
 clear hb
 go_wp2_with fail
 go_ret
 exact ⟨rfl,HB.out⟩
theorem VP (A:Option Addr)(c:Nat)(l:List T)(w:World)(hA:bz w w.heap.size A l) :
 Calls Tryz.prog 102 #[.slice A l.length c,.func (.func 103) #[] #[]] w fun e w'=>e=.returned (.bool (l.all aW))∧Below w.heap.size w w':=by
 have hb0:=aG w #[.func (.func 103) #[] #[]] 155
 have hcf:=anc (rH A c l w.heap.size 0 _ ((hA.low hb0).more hb0.size) (by simp))
 rw [← Gh aW l]
 have HB0:=anc hb0
 clear hA hb0
 generalize (l.any fun e=>!aW e)=q at *
 generalize l.length=m at *
 have hmf:∀ (fn:Fn)(first cap:Array Value)(w:World),(Instr.makeFunc fn first cap).run Tryz.prog w=.ok (.func fn first cap) w:=fun _ _ _ _=>rfl
 go_enter Tryz.func102,Tryz.ntmps102
 go_wp2_with fail
 refine (hcf.out).mono ?_
 rintro e w' ⟨rfl,hb⟩
 have HB:=anc (HB0.out.trans (hb.mono HB0.out.size))
 clear hb
 go_wp2_with fail
 go_ret
 exact ⟨rfl,HB.out⟩
theorem AB (x:T)(A:Option Addr)(c b o:Nat)(w:World)(hA:bz w w.heap.size A x.kids)(h0:w.cell? ⟨b,o,none⟩=some (.func (.func 105) #[] #[])) :
 Calls Tryz.prog 139 #[x.val A c,.pointer (some ⟨b,o,none⟩)] w fun e w'=>e=.returned (.bool (!ik x))∧Below w.heap.size w w':=by
 have hb0:=aG w #[.int .i64 x.k,.string x.s,.int .i64 x.n,.slice A x.kids.length c,.int .i64 x.at_] 71
 have hat:=anc (VO x A c _ ((hA.low hb0).more hb0.size))
 have hp:=block_lt_of_cell h0
 have h0':=(hb0.cell hp).trans h0
 have HB0:=anc hb0
 clear hA hb0
 generalize ik x=q at *
 obtain ⟨k,s,n,l,a⟩:=x
 simp only [T.val,T.k,T.s,T.n,T.kids,T.at_] at *
 generalize l.length=m at *
 go_enter Tryz.func139,Tryz.ntmps139
 go_wp2_with fail
 refine (hat.out).mono ?_
 rintro e w' ⟨rfl,hb⟩
 have HB:=anc (HB0.out.trans (hb.mono HB0.out.size))
 clear hb
 go_wp2_with fail
 go_ret
 exact ⟨rfl,HB.out⟩
theorem wP (A:Option Addr)(c:Nat)(l:List T)(pb po:Nat)(w:World)(hA:bz w w.heap.size A l)(h0:w.cell? ⟨pb,po,none⟩=some (.func (.func 105) #[] #[])) :
 Calls Tryz.prog 161 #[.slice A l.length c,.func (.func 139) #[] #[.pointer (some ⟨pb,po,none⟩)]] w fun e w' =>
  e=.returned (.int .i64 (idx (fun e:T=>!ik e) l 0))∧Below w.heap.size w w':=by
 have hn:=hA.len
 have HL:=anc hA.cu
 obtain ⟨n,en⟩:∃ n,n=l.length:=⟨_,rfl⟩
 have Hl:=anc en
 rw [← en] at hn ⊢
 clear hA en
 go_enter Tryz.func161,Tryz.ntmps161
 go_wp2_with fail
 go_loopw [8] (fun i wr=>∃ k:Nat,k≤n∧i=.int .i64 k∧Below w.heap.size w wr∧Hid (idx (fun e:T=>!ik e) l 0=idx (fun e:T=>!ik e) (l.drop k) k)) (fun i _=>n - (intOf i).toNat)
 case atStart=>exact ⟨0,Nat.zero_le _,rfl,anl _ _,rfl⟩
 case round =>
  obtain ⟨k,hk,rfl,hbl,hz⟩:=hrel
  by_cases hlt:k < n
  ·obtain ⟨x,hx⟩:∃ x,l[k]?=some x:=⟨_,anr (by rw [← Hl.out];exact hlt)⟩
   have hst:=anc (hz.out.trans (kH (p:=fun e:T=>!ik e) hx))
   obtain ⟨b,o,A',c',rfl,hb,c1,c2,c3,c4,c5,hc',hK⟩:=HL.out wr hbl k x hx
   clear hx hz
   have hs:=hbl.size
   have hcl:=anc (AB x A' c' pb po wr hK ((hbl.cell (block_lt_of_cell h0)).trans h0))
   clear hK
   obtain ⟨xk,xs,xn,xl,xa⟩:=x
   simp only [T.k,T.s,T.n,T.kids,T.at_,T.val] at c1 c2 c3 c4 c5 hc' hcl
   by_cases he:(!ik (T.mk xk xs xn xl xa))=true
   ·have hst':Hid (idx (fun e:T=>!ik e) l 0=(k:Int)):=by
     have:=hst.out
     rwa [if_pos he] at this
    rw [he] at hcl
    clear he hst
    generalize xl.length=xm at *
    go_wp2_with fail
    refine (hcl.out).mono ?_
    rintro e w' ⟨rfl,hb2⟩
    have hb3:=hbl.trans (hb2.mono hs)
    clear hb2
    go_wp2_with fail
    go_ret
    exact ⟨by rw [hst'.out];rfl,hb3⟩
   ·have he':(!ik (T.mk xk xs xn xl xa))=false:=by simpa using he
    have hst':Hid (idx (fun e:T=>!ik e) l 0=idx (fun e:T=>!ik e) (l.drop (k+1)) (k+1)):=by
     have:=hst.out
     rwa [if_neg he] at this
    rw [he'] at hcl
    clear he he' hst
    generalize xl.length=xm at *
    go_wp2_with fail
    refine (hcl.out).mono ?_
    rintro e w' ⟨rfl,hb2⟩
    have hb3:=hbl.trans (hb2.mono hs)
    clear hb2
    go_wp2_with fail
    go_roundw
    case rel=>exact ⟨k+1,by omega,by go_num,hb3,hst'⟩
    case measure=>simp [intOf];omega
  ·go_wp2_with fail
   go_ret
   have e:k=n:=by omega
   subst e
   exact ⟨by rw [hz.out,List.drop_of_length_le (by rw [← Hl.out];omega)];rfl,hbl⟩
theorem rJ (A:Option Addr)(c:Nat)(l:List T)(pb po:Nat)(w:World)(hA:bz w w.heap.size A l)(h0:w.cell? ⟨pb,po,none⟩=some (.func (.func 105) #[] #[])) :
 Calls Tryz.prog 138 #[.slice A l.length c,.func (.func 139) #[] #[.pointer (some ⟨pb,po,none⟩)]] w fun e w' =>
  e=.returned (.bool (l.any fun e:T=>!ik e))∧Below w.heap.size w w':=by
 have hc:=anc (wP A c l pb po w hA h0)
 rw [← wK (fun e:T=>!ik e) l 0]
 clear hA h0
 generalize idx (fun e:T=>!ik e) l 0=r at *
 generalize l.length=m at *
 go_enter Tryz.func138,Tryz.ntmps138
 go_wp2_with fail
 refine (hc.out).mono ?_
 rintro e w' ⟨rfl,hb⟩
 have HB:=anc hb
 clear hb
 go_wp2_with fail
 go_ret
 exact ⟨rfl,HB.out⟩
theorem VQ (A:Option Addr)(c:Nat)(l:List T)(w:World)(hA:bz w w.heap.size A l) :
 Calls Tryz.prog 102 #[.slice A l.length c,.func (.func 105) #[] #[]] w fun e w'=>e=.returned (.bool (l.all ik))∧Below w.heap.size w w':=by
 have hb0:=aG w #[.func (.func 105) #[] #[]] 155
 have hcf:=anc (rJ A c l w.heap.size 0 _ ((hA.low hb0).more hb0.size) (by simp))
 rw [← Gh ik l]
 have HB0:=anc hb0
 clear hA hb0
 generalize (l.any fun e=>!ik e)=q at *
 generalize l.length=m at *
 have hmf:∀ (fn:Fn)(first cap:Array Value)(w:World),(Instr.makeFunc fn first cap).run Tryz.prog w=.ok (.func fn first cap) w:=fun _ _ _ _=>rfl
 go_enter Tryz.func102,Tryz.ntmps102
 go_wp2_with fail
 refine (hcf.out).mono ?_
 rintro e w' ⟨rfl,hb⟩
 have HB:=anc (HB0.out.trans (hb.mono HB0.out.size))
 clear hb
 go_wp2_with fail
 go_ret
 exact ⟨rfl,HB.out⟩
theorem RV (t:T)(A:Option Addr)(c:Nat)(w:World)(hA:bz w w.heap.size A t.kids) :
 Calls Tryz.prog 101 #[t.val A c] w fun e w'=>e=.returned (.string (iR t))∧Below w.heap.size w w':=by
 obtain ⟨k,s,n,l,a⟩:=t
 change bz w w.heap.size A l at hA
 rw [show iR (.mk k s n l a)=o8 k l from rfl]
 simp only [T.val,T.k,T.s,T.n,T.kids,T.at_]
 have hb0:=aG w #[.int .i64 k,.string s,.int .i64 n,.slice A l.length c,.int .i64 a] 71
 have hlen:=hA.len
 by_cases h1:k=1
 ·subst h1
  by_cases h2:l.length=0
  ·obtain rfl:l=[]:=List.eq_nil_of_length_eq_zero h2
   rw [show o8 1 []=⟨#[]⟩ from rfl]
   have HB0:=anc hb0
   clear hb0 hA hlen h2
   simp only [List.length_nil] at *
   go_enter Tryz.func101,Tryz.ntmps101
   go_wp2_with fail
   go_ret
   exact ⟨rfl,HB0.out⟩
  ·obtain ⟨x,hx⟩:∃ x,l[0]?=some x:=⟨_,anr (by omega)⟩
   obtain ⟨b,o,A',c',rfl,hb,c1,c2,c3,c4,c5,hc',hK⟩:=hA.cu _ (anl _ _) 0 x hx
   rw [Nat.zero_mul,Nat.add_zero] at c1 c2
   have d1:=(hb0.cell hb).trans c1
   have d2:=(hb0.cell hb).trans c2
   have hw:o8 1 l=if x.k=2 then x.s else ⟨#[]⟩:=by
    cases l with
    | nil=>simp at hx
    | cons y l =>
      simp at hx;subst hx
      show (if (1:Int)=1∧y.k=2 then y.s else ⟨#[]⟩)=_
      by_cases e:y.k=2
      ·rw [if_pos ⟨rfl,e⟩,if_pos e]
      ·rw [if_neg (fun h=>e h.2),if_neg e]
   rw [hw]
   have HB0:=anc hb0
   clear hb0 hA hK hc' hx c3 c4 c5 hw
   generalize l.length=m at *
   have h2':((m:Int) == 0)=false:=by rw [beq_eq_false_iff_ne];omega
   by_cases hx2:x.k=2
   ·rw [if_pos hx2]
    rw [hx2] at c1 d1
    generalize x.s=xs at *
    clear hx2 x
    go_enter Tryz.func101,Tryz.ntmps101
    go_wp2_with fail
    go_ret
    exact ⟨rfl,HB0.out⟩
   ·rw [if_neg hx2]
    generalize x.s=xs at *
    generalize x.k=xk at *
    have RS:(xk == 2)=false:=by simpa using hx2
    clear x
    go_enter Tryz.func101,Tryz.ntmps101
    go_wp2_with fail
    go_ret
    exact ⟨rfl,HB0.out⟩
 ·have h1':(k == 1)=false:=by simpa using h1
  rw [show o8 k l=⟨#[]⟩ from by
   cases l with
   | nil=>rfl
   | cons x l=>exact if_neg fun h=>h1 h.1]
  have HB0:=anc hb0
  clear hb0 hA
  generalize l.length=m at *
  go_enter Tryz.func101,Tryz.ntmps101
  go_wp2_with fail
  go_ret
  exact ⟨rfl,HB0.out⟩
theorem BJ (l:List T):bY jU l=if l.length=2∧(l.getD 1 aH).k=2 then 1 else 0:=by unfold bY;rw [if_pos rfl]
theorem zZ (l:List T):bY iK l=if l.length=3 then 2 else 0:=by unfold bY;rw [if_neg (by decide),if_pos rfl]
theorem wQ (l:List T):bY ig l=if 3≤l.length∧(bT l 1).all aW=true then 3 else 0:=by unfold bY;rw [if_neg (by decide),if_neg (by decide),if_pos rfl]
theorem EI (l:List T):bY nS l=if l.length=5∧eP (l.getD 1 aH)=true∧eP (l.getD 2 aH)=true then 4 else 0:=by unfold bY;rw [if_neg (by decide),if_neg (by decide),if_neg (by decide),if_pos rfl]
theorem BK (l:List T):bY jJ l=if l.length=3 then 5 else 0:=by unfold bY;rw [if_neg (by decide),if_neg (by decide),if_neg (by decide),if_neg (by decide),if_pos rfl]
theorem uP (l:List T):bY dW l=if l.length=2 then 6 else 0:=by unfold bY;rw [if_neg (by decide),if_neg (by decide),if_neg (by decide),if_neg (by decide),if_neg (by decide),if_pos rfl]
theorem BL (l:List T):bY kK l=if 3≤l.length∧eP (l.getD 1 aH)=true∧(bT l 2).all ik=true then 7 else 0:=by unfold bY;rw [if_neg (by decide),if_neg (by decide),if_neg (by decide),if_neg (by decide),if_neg (by decide),if_neg (by decide),if_pos rfl]
theorem kind_none {wd:List UInt8} (h:∀ x ∈ jK,(wd == x)=false)(l:List T):bY wd l=0:=by
 have hne:∀ x ∈ jK,wd≠x:=fun x hx e=>by have:=h x hx;rw [e] at this;simp at this
 unfold bY
 rw [if_neg (hne jU (by simp [jK])),if_neg (hne iK (by simp [jK])),if_neg (hne ig (by simp [jK])),if_neg (hne nS (by simp [jK])),if_neg (hne jJ (by simp [jK])),if_neg (hne dW (by simp [jK])),if_neg (hne kK (by simp [jK]))]
theorem getD_some {l:List T} {i:Nat} {x:T} (h:l[i]?=some x):l.getD i aH=x:=by rw [List.getD_eq_getElem?_getD,h];rfl
theorem RX (t:T)(A:Option Addr)(c:Nat)(w:World)(hc:t.kids.length≤c)(hA:bz w w.heap.size A t.kids) :
 Calls Tryz.prog 56 #[t.val A c] w fun e w'=>e=.returned (.int .i64 (fA t))∧Below w.heap.size w w':=by
 obtain ⟨k,s,n,l,a⟩:=t
 change l.length≤c at hc
 change bz w w.heap.size A l at hA
 have hb0:=anc (aG w #[.int .i64 k,.string s,.int .i64 n,.slice A l.length c,.int .i64 a] 71)
 have hx0:=anc (lh w k s n A l.length c a)
 have hwd:=anc (RV (.mk k s n l a) A c (w.alloc (.cells #[.int .i64 k,.string s,.int .i64 n,.slice A l.length c,.int .i64 a] 71)) ((hA.low hb0.out).more hb0.out.size))
 rw [show fA (.mk k s n l a)=bY (iR (.mk k s n l a)).toList l from rfl]
 generalize iR (.mk k s n l a)=wd at *
 simp only [T.val,T.k,T.s,T.n,T.kids,T.at_] at hwd ⊢
 have hlen:=hA.len
 have HA:=anc hA
 clear hA
 rcases BI wd.toList with h | h
 ·simp only [jK,List.mem_cons,List.not_mem_nil,or_false] at h
  rcases h with h | h | h | h | h | h | h
  ·obtain ⟨r,hr⟩:∃ r,r=bY wd.toList l:=⟨_,rfl⟩
   rw [← hr]
   rw [h,BJ] at hr
   simp only [jU] at h
   have HR:=anc hr.symm
   clear hr
   by_cases h2:l.length=2
   ·obtain ⟨x,hx⟩:∃ x,l[1]?=some x:=⟨_,anr (by omega)⟩
    rw [h2,getD_some hx] at HR
    generalize l.length=m at *
    subst h2
    go_enter Tryz.func56,Tryz.ntmps56
    go_wp2_with fail
    refine (hwd.out).mono ?_
    rintro e w2 ⟨rfl,hb⟩
    have dG:=anc ((hb.block w.heap.size (by simp)).trans hx0.out)
    have HB2:=anc (hb0.out.trans (hb.mono hb0.out.size))
    obtain ⟨⟨k0,k1,k2,k3,k4⟩,_,_,_,_,_⟩:=ay dG.out
    clear hb hwd hb0 hx0
    obtain ⟨b,o,A',c',rfl,hb,c1,c2,c3,c4,c5,hc',hK⟩:=HA.out.cu _ HB2.out 1 x hx
    rw [Nat.one_mul] at c1
    clear c2 c3 c4 c5 hc' hK hx HA
    generalize x.k=xk at *
    by_cases hx2:xk=2
    ·subst hx2
     go_wp2_with fail
     go_ret
     exact ⟨by show Ending.returned (Value.int .i64 1)=_;rw [← HR.out,if_pos ⟨trivial,trivial⟩],HB2.out⟩
    ·have RS:(xk == 2)=false:=by simpa using hx2
     go_wp2_with fail
     go_ret
     exact ⟨by show Ending.returned (Value.int .i64 0)=_;rw [← HR.out,if_neg (fun h=>hx2 h.2)],HB2.out⟩
   ·generalize l.length=m at *
    clear HA
    have h2':((m:Int) == 2)=false:=by rw [beq_eq_false_iff_ne];omega
    go_enter Tryz.func56,Tryz.ntmps56
    go_wp2_with fail
    refine (hwd.out).mono ?_
    rintro e w2 ⟨rfl,hb⟩
    have dG:=anc ((hb.block w.heap.size (by simp)).trans hx0.out)
    have HB2:=anc (hb0.out.trans (hb.mono hb0.out.size))
    obtain ⟨⟨k0,k1,k2,k3,k4⟩,_,_,_,_,_⟩:=ay dG.out
    clear hb hwd hb0 hx0
    go_wp2_with fail
    go_ret
    exact ⟨by show Ending.returned (Value.int .i64 0)=_;rw [← HR.out,if_neg (fun h=>h2 h.1)],HB2.out⟩
  ·rw [h,zZ]
   simp only [iK] at h
   generalize l.length=m at *
   clear HA
   by_cases h2:m=3
   ·subst h2
    rw [if_pos rfl]
    go_enter Tryz.func56,Tryz.ntmps56
    go_wp2_with fail
    refine (hwd.out).mono ?_
    rintro e w2 ⟨rfl,hb⟩
    have dG:=anc ((hb.block w.heap.size (by simp)).trans hx0.out)
    have HB2:=anc (hb0.out.trans (hb.mono hb0.out.size))
    obtain ⟨⟨k0,k1,k2,k3,k4⟩,_,_,_,_,_⟩:=ay dG.out
    clear hb hwd hb0 hx0
    go_wp2_with fail
    go_ret
    exact ⟨rfl,HB2.out⟩
   ·rw [if_neg h2]
    have h2':((m:Int) == 3)=false:=by rw [beq_eq_false_iff_ne];omega
    go_enter Tryz.func56,Tryz.ntmps56
    go_wp2_with fail
    refine (hwd.out).mono ?_
    rintro e w2 ⟨rfl,hb⟩
    have dG:=anc ((hb.block w.heap.size (by simp)).trans hx0.out)
    have HB2:=anc (hb0.out.trans (hb.mono hb0.out.size))
    obtain ⟨⟨k0,k1,k2,k3,k4⟩,_,_,_,_,_⟩:=ay dG.out
    clear hb hwd hb0 hx0
    go_wp2_with fail
    go_ret
    exact ⟨rfl,HB2.out⟩
  ·obtain ⟨r,hr⟩:∃ r,r=bY wd.toList l:=⟨_,rfl⟩
   rw [← hr]
   rw [h,wQ] at hr
   simp only [ig] at h
   have HR:=anc hr.symm
   clear hr
   by_cases h2:3≤l.length
   ·have hml:(bT l 1).length=l.length - 2:=by unfold bT;rw [List.length_take,List.length_drop];omega
    obtain ⟨x,hx⟩:∃ x,l[1]?=some x:=⟨_,anr (by omega)⟩
    go_enter Tryz.func56,Tryz.ntmps56
    go_wp2_with fail
    refine (hwd.out).mono ?_
    rintro e w2 ⟨rfl,hb⟩
    have dG:=anc ((hb.block w.heap.size (by simp)).trans hx0.out)
    have HB2:=anc (hb0.out.trans (hb.mono hb0.out.size))
    obtain ⟨⟨k0,k1,k2,k3,k4⟩,_,_,_,_,_⟩:=ay dG.out
    clear hb hwd hb0 hx0
    obtain ⟨b,o,A',c',rfl,Ky,_⟩:=HA.out.cu _ HB2.out 1 x hx
    have hal:=anc (VP (some ⟨b,o+1 * 5,none⟩) (c - 1) (bT l 1) w2 ((((HA.out.low HB2.out).more HB2.out.size)).sub 1 _))
    rw [hml] at hal
    clear hml HA hx
    generalize (bT l 1).all aW=q at *
    generalize l.length=m at *
    go_wp2_with fail
    refine (hal.out).mono ?_
    rintro e w3 ⟨rfl,hb⟩
    have HB3:=anc (HB2.out.trans (hb.mono HB2.out.size))
    clear hb
    cases q
    ·go_wp2_with fail
     go_ret
     exact ⟨by show Ending.returned (Value.int .i64 0)=_;rw [← HR.out,if_neg (fun h=>by simp at h)],HB3.out⟩
    ·go_wp2_with fail
     go_ret
     exact ⟨by show Ending.returned (Value.int .i64 3)=_;rw [← HR.out,if_pos ⟨h2,trivial⟩],HB3.out⟩
   ·generalize l.length=m at *
    clear HA
    go_enter Tryz.func56,Tryz.ntmps56
    go_wp2_with fail
    refine (hwd.out).mono ?_
    rintro e w2 ⟨rfl,hb⟩
    have dG:=anc ((hb.block w.heap.size (by simp)).trans hx0.out)
    have HB2:=anc (hb0.out.trans (hb.mono hb0.out.size))
    obtain ⟨⟨k0,k1,k2,k3,k4⟩,_,_,_,_,_⟩:=ay dG.out
    clear hb hwd hb0 hx0
    go_wp2_with fail
    go_ret
    exact ⟨by show Ending.returned (Value.int .i64 0)=_;rw [← HR.out,if_neg (fun h=>h2 h.1)],HB2.out⟩
  ·obtain ⟨r,hr⟩:∃ r,r=bY wd.toList l:=⟨_,rfl⟩
   rw [← hr]
   rw [h,EI] at hr
   simp only [nS] at h
   have HR:=anc hr.symm
   clear hr
   by_cases h2:l.length=5
   ·obtain ⟨x,hx⟩:∃ x,l[1]?=some x:=⟨_,anr (by omega)⟩
    obtain ⟨y,hy⟩:∃ y,l[2]?=some y:=⟨_,anr (by omega)⟩
    rw [h2,getD_some hx,getD_some hy] at HR
    generalize l.length=m at *
    subst h2
    go_enter Tryz.func56,Tryz.ntmps56
    go_wp2_with fail
    refine (hwd.out).mono ?_
    rintro e w2 ⟨rfl,hb⟩
    have dG:=anc ((hb.block w.heap.size (by simp)).trans hx0.out)
    have HB2:=anc (hb0.out.trans (hb.mono hb0.out.size))
    obtain ⟨⟨k0,k1,k2,k3,k4⟩,_,_,_,_,_⟩:=ay dG.out
    clear hb hwd hb0 hx0
    obtain ⟨b,o,A1,d1,rfl,Ky,c1,c2,c3,c4,c5,hd1,hK1⟩:=HA.out.cu _ HB2.out 1 x hx
    rw [Nat.one_mul] at c1 c2 c3 c4 c5
    have ha1:=anc (uh x A1 d1 w2 hK1)
    generalize eP x=q1 at *
    obtain ⟨xk,xs,xn,xl,xa⟩:=x
    simp only [T.val,T.k,T.s,T.n,T.kids,T.at_] at c1 c2 c3 c4 c5 ha1
    clear hK1 hd1 hx
    generalize xl.length=xm at *
    go_wp2_with fail
    refine (ha1.out).mono ?_
    rintro e w3 ⟨rfl,hb⟩
    have HB3:=anc (HB2.out.trans (hb.mono HB2.out.size))
    have mP:=anc ((hb.block w.heap.size (by have:=(Array.getElem?_eq_some_iff.1 dG.out).1;exact this)).trans dG.out)
    obtain ⟨⟨m0,m1,m2,m3,m4⟩,_,_,_,_,_⟩:=ay mP.out
    clear hb
    cases q1
    ·go_wp2_with fail
     go_ret
     exact ⟨by show Ending.returned (Value.int .i64 0)=_;rw [← HR.out,if_neg (fun h=>by simp at h)],HB3.out⟩
    ·obtain ⟨b',o',A2,d2,e9,hb8,e1,e2,e3,e4,e5,hd2,hK2⟩:=HA.out.cu _ HB3.out 2 y hy
     obtain ⟨rfl,rfl⟩:b'=b∧o'=o:=by injection e9 with e9;injection e9 with e9 e10;exact ⟨e9.symm,e10.symm⟩
     have ha2:=anc (uh y A2 d2 w3 hK2)
     generalize eP y=q2 at *
     obtain ⟨yk,ys,yn,yl,ya⟩:=y
     simp only [T.val,T.k,T.s,T.n,T.kids,T.at_] at e1 e2 e3 e4 e5 ha2
     clear hK2 hd2 hy HA
     generalize yl.length=ym at *
     go_wp2_with fail
     refine (ha2.out).mono ?_
     rintro e w4 ⟨rfl,hb⟩
     have HB4:=anc (HB3.out.trans (hb.mono HB3.out.size))
     clear hb
     cases q2
     ·go_wp2_with fail
      go_ret
      exact ⟨by show Ending.returned (Value.int .i64 0)=_;rw [← HR.out,if_neg (fun h=>by simp at h)],HB4.out⟩
     ·go_wp2_with fail
      go_ret
      exact ⟨by show Ending.returned (Value.int .i64 4)=_;rw [← HR.out,if_pos ⟨trivial,trivial,trivial⟩],HB4.out⟩
   ·generalize l.length=m at *
    clear HA
    have h2':((m:Int) == 5)=false:=by rw [beq_eq_false_iff_ne];omega
    go_enter Tryz.func56,Tryz.ntmps56
    go_wp2_with fail
    refine (hwd.out).mono ?_
    rintro e w2 ⟨rfl,hb⟩
    have dG:=anc ((hb.block w.heap.size (by simp)).trans hx0.out)
    have HB2:=anc (hb0.out.trans (hb.mono hb0.out.size))
    obtain ⟨⟨k0,k1,k2,k3,k4⟩,_,_,_,_,_⟩:=ay dG.out
    clear hb hwd hb0 hx0
    go_wp2_with fail
    go_ret
    exact ⟨by show Ending.returned (Value.int .i64 0)=_;rw [← HR.out,if_neg (fun h=>h2 h.1)],HB2.out⟩
  ·rw [h,BK]
   simp only [jJ] at h
   generalize l.length=m at *
   clear HA
   by_cases h2:m=3
   ·subst h2
    rw [if_pos rfl]
    go_enter Tryz.func56,Tryz.ntmps56
    go_wp2_with fail
    refine (hwd.out).mono ?_
    rintro e w2 ⟨rfl,hb⟩
    have dG:=anc ((hb.block w.heap.size (by simp)).trans hx0.out)
    have HB2:=anc (hb0.out.trans (hb.mono hb0.out.size))
    obtain ⟨⟨k0,k1,k2,k3,k4⟩,_,_,_,_,_⟩:=ay dG.out
    clear hb hwd hb0 hx0
    go_wp2_with fail
    go_ret
    exact ⟨rfl,HB2.out⟩
   ·rw [if_neg h2]
    have h2':((m:Int) == 3)=false:=by rw [beq_eq_false_iff_ne];omega
    go_enter Tryz.func56,Tryz.ntmps56
    go_wp2_with fail
    refine (hwd.out).mono ?_
    rintro e w2 ⟨rfl,hb⟩
    have dG:=anc ((hb.block w.heap.size (by simp)).trans hx0.out)
    have HB2:=anc (hb0.out.trans (hb.mono hb0.out.size))
    obtain ⟨⟨k0,k1,k2,k3,k4⟩,_,_,_,_,_⟩:=ay dG.out
    clear hb hwd hb0 hx0
    go_wp2_with fail
    go_ret
    exact ⟨rfl,HB2.out⟩
  ·rw [h,uP]
   simp only [dW] at h
   generalize l.length=m at *
   clear HA
   by_cases h2:m=2
   ·subst h2
    rw [if_pos rfl]
    go_enter Tryz.func56,Tryz.ntmps56
    go_wp2_with fail
    refine (hwd.out).mono ?_
    rintro e w2 ⟨rfl,hb⟩
    have dG:=anc ((hb.block w.heap.size (by simp)).trans hx0.out)
    have HB2:=anc (hb0.out.trans (hb.mono hb0.out.size))
    obtain ⟨⟨k0,k1,k2,k3,k4⟩,_,_,_,_,_⟩:=ay dG.out
    clear hb hwd hb0 hx0
    go_wp2_with fail
    go_ret
    exact ⟨rfl,HB2.out⟩
   ·rw [if_neg h2]
    have h2':((m:Int) == 2)=false:=by rw [beq_eq_false_iff_ne];omega
    go_enter Tryz.func56,Tryz.ntmps56
    go_wp2_with fail
    refine (hwd.out).mono ?_
    rintro e w2 ⟨rfl,hb⟩
    have dG:=anc ((hb.block w.heap.size (by simp)).trans hx0.out)
    have HB2:=anc (hb0.out.trans (hb.mono hb0.out.size))
    obtain ⟨⟨k0,k1,k2,k3,k4⟩,_,_,_,_,_⟩:=ay dG.out
    clear hb hwd hb0 hx0
    go_wp2_with fail
    go_ret
    exact ⟨rfl,HB2.out⟩
  ·obtain ⟨r,hr⟩:∃ r,r=bY wd.toList l:=⟨_,rfl⟩
   rw [← hr]
   rw [h,BL] at hr
   simp only [kK] at h
   have HR:=anc hr.symm
   clear hr
   by_cases h2:3≤l.length
   ·have hml:(bT l 2).length=l.length - 3:=by unfold bT;rw [List.length_take,List.length_drop];omega
    obtain ⟨x,hx⟩:∃ x,l[1]?=some x:=⟨_,anr (by omega)⟩
    rw [getD_some hx] at HR
    go_enter Tryz.func56,Tryz.ntmps56
    go_wp2_with fail
    refine (hwd.out).mono ?_
    rintro e w2 ⟨rfl,hb⟩
    have dG:=anc ((hb.block w.heap.size (by simp)).trans hx0.out)
    have HB2:=anc (hb0.out.trans (hb.mono hb0.out.size))
    obtain ⟨⟨k0,k1,k2,k3,k4⟩,_,_,_,_,_⟩:=ay dG.out
    clear hb hwd hb0 hx0
    obtain ⟨b,o,A1,d1,rfl,Ky,c1,c2,c3,c4,c5,hd1,hK1⟩:=HA.out.cu _ HB2.out 1 x hx
    rw [Nat.one_mul] at c1 c2 c3 c4 c5
    have ha1:=anc (uh x A1 d1 w2 hK1)
    generalize eP x=q1 at *
    obtain ⟨xk,xs,xn,xl,xa⟩:=x
    simp only [T.val,T.k,T.s,T.n,T.kids,T.at_] at c1 c2 c3 c4 c5 ha1
    clear hK1 hd1 hx
    generalize xl.length=xm at *
    have hal:=anc (fun w3 (h:Below w.heap.size w w3)=>VQ (some ⟨b,o+2 * 5,none⟩) (c - 2) (bT l 2) w3 ((((HA.out.low h).more h.size)).sub 2 _))
    rw [hml] at hal
    clear hml HA
    generalize (bT l 2).all ik=q2 at *
    generalize l.length=m at *
    go_wp2_with fail
    refine (ha1.out).mono ?_
    rintro e w3 ⟨rfl,hb⟩
    have HB3:=anc (HB2.out.trans (hb.mono HB2.out.size))
    have mP:=anc ((hb.block w.heap.size (by have:=(Array.getElem?_eq_some_iff.1 dG.out).1;exact this)).trans dG.out)
    obtain ⟨⟨m0,m1,m2,m3,m4⟩,_,_,_,_,_⟩:=ay mP.out
    clear hb
    cases q1
    ·go_wp2_with fail
     go_ret
     exact ⟨by show Ending.returned (Value.int .i64 0)=_;rw [← HR.out,if_neg (fun h=>by simp at h)],HB3.out⟩
    ·go_wp2_with fail
     refine (hal.out _ HB3.out).mono ?_
     rintro e w4 ⟨rfl,hb⟩
     have HB4:=anc (HB3.out.trans (hb.mono HB3.out.size))
     clear hb
     cases q2
     ·go_wp2_with fail
      go_ret
      exact ⟨by show Ending.returned (Value.int .i64 0)=_;rw [← HR.out,if_neg (fun h=>by simp at h)],HB4.out⟩
     ·go_wp2_with fail
      go_ret
      exact ⟨by show Ending.returned (Value.int .i64 7)=_;rw [← HR.out,if_pos ⟨h2,trivial,trivial⟩],HB4.out⟩
   ·generalize l.length=m at *
    clear HA
    go_enter Tryz.func56,Tryz.ntmps56
    go_wp2_with fail
    refine (hwd.out).mono ?_
    rintro e w2 ⟨rfl,hb⟩
    have dG:=anc ((hb.block w.heap.size (by simp)).trans hx0.out)
    have HB2:=anc (hb0.out.trans (hb.mono hb0.out.size))
    obtain ⟨⟨k0,k1,k2,k3,k4⟩,_,_,_,_,_⟩:=ay dG.out
    clear hb hwd hb0 hx0
    go_wp2_with fail
    go_ret
    exact ⟨by show Ending.returned (Value.int .i64 0)=_;rw [← HR.out,if_neg (fun h=>h2 h.1)],HB2.out⟩
 ·rw [kind_none h]
  simp only [jK,jU,iK,ig,nS,jJ,dW,kK,List.mem_cons,List.not_mem_nil,or_false,forall_eq_or_imp,forall_eq] at h
  obtain ⟨h0,h1,h2,h3,h4,h5,h6⟩:=h
  generalize l.length=m at *
  clear HA
  go_enter Tryz.func56,Tryz.ntmps56
  go_wp2_with fail
  refine (hwd.out).mono ?_
  rintro e w2 ⟨rfl,hb⟩
  have dG:=anc ((hb.block w.heap.size (by simp)).trans hx0.out)
  have HB2:=anc (hb0.out.trans (hb.mono hb0.out.size))
  obtain ⟨⟨k0,k1,k2,k3,k4⟩,_,_,_,_,_⟩:=ay dG.out
  clear hb hwd hb0 hx0
  go_wp2_with fail
  go_ret
  exact ⟨rfl,HB2.out⟩
structure Only (g:Nat)(w w':World):Prop where
 os:w'.os=w.os
 tape:w'.tape=w.tape
 output:w'.output=w.output
 size:w.heap.size≤w'.heap.size
 block:∀ k,k < w.heap.size→k≠g→w'.heap[k]?=w.heap[k]?
theorem Only.refl (g:Nat)(w:World):Only g w w:=⟨rfl,rfl,rfl,ank _,fun _ _ _=>rfl⟩
theorem Only.trans {g:Nat} {a b c:World} (h:Only g a b)(k:Only g b c):Only g a c :=
 ⟨k.os.trans h.os,k.tape.trans h.tape,k.output.trans h.output,anv h.size k.size,fun i hi hg=>(k.block i (anp hi h.size) hg).trans (h.block i hi hg)⟩
theorem aF {g:Nat} {w w':World} (h:Below w.heap.size w w'):Only g w w':=⟨h.os,h.tape,h.output,h.size,fun k hk _=>h.block k hk⟩
theorem Only.cell {g:Nat} {w w':World} (h:Only g w w') {p:Addr} (h1:p.block < w.heap.size)(h2:p.block≠g):w'.cell? p=w.cell? p:=anw (w:=w) (h.block p.block h1 h2)
theorem Only.below {g B:Nat} {w w':World} (h:Only g w w')(hB:B≤w.heap.size)(hg:B≤g):Below B w w':=⟨h.os,h.tape,h.output,h.size,fun k hk=>h.block k (by omega) (by omega)⟩
theorem Only.alloc {g:Nat} {w w':World} (h:Only g w w')(o:Obj):Only g w (w'.alloc o):=h.trans (aF ((anl _ _).alloc (ank _) o))
theorem Only.bel {g:Nat} {w w1 w':World} (h:Only g w w1)(hb:Below w1.heap.size w1 w'):Only g w w':=h.trans (aF hb)
theorem Only.aA {g:Nat} {w w':World} (h:Only g w w') {p:Addr} (hp:w.heap.size≤p.block)(u:Value):Only g w (w'.setCell p u) :=
 ⟨h.os,h.tape,h.output,by simp [World.setCell];exact h.size,fun k hk hne=>(ann w' p u k (by omega)).trans (h.block k hk hne)⟩
theorem Only.grown {g:Nat} {w a w1:World} {row:Option Nat} (h:Only g w a)(hg:a.grownBy w1 row)(hr:∀ k,row=some k→w.heap.size≤k):Only g w w1 :=
 ⟨hg.os.trans h.os,hg.tape.trans h.tape,hg.output.trans h.output,anv h.size hg.size,fun k hk hne=>(hg.block k (anp hk h.size) (fun e=>by have:=hr k e.symm;omega)).trans (h.block k hk hne)⟩
def qo (w:World)(g:Nat)(st:eY):Prop:=w.heap[g]?=some (.cells #[.int .i64 st.1,.int .i64 st.2] 76 (0,0))
theorem qo.lt {w:World} {g:Nat} {st:eY} (h:qo w g st):g < w.heap.size:=(Array.getElem?_eq_some_iff.1 h).1
theorem qo.kept {w w':World} {g:Nat} {st:eY} (h:qo w g st)(hb:Below w.heap.size w w'):qo w' g st:=(hb.block g h.lt).trans h
theorem cell2 {w:World} {g:Nat} {a b:Value} {t:TypeId} (h:w.heap[g]?=some (.cells #[a,b] t (0,0))) :
 (w.cell? ⟨g,0,none⟩=some a∧w.cell? ⟨g,1,none⟩=some b)∧w.frozen? ⟨g,0,none⟩=false∧w.frozen? ⟨g,1,none⟩=false:=by
 simp [World.cell?,World.frozen?,h]
theorem N9 {w:World} {g k:Nat} {a b u:Value} {t:TypeId} (h:w.heap[g]?=some (.cells #[a,b] t (0,0))):(w.setCell ⟨g,k,none⟩ u).heap[g]?=some (.cells (#[a,b].set! k u) t (0,0)):=by
 show (w.heap.modify g _)[g]?=_
 rw [Array.getElem?_modify]
 simp [h]
theorem dD (g:Nat)(st:eY)(e a:Int)(w:World)(h:qo w g st) :
 Calls Tryz.prog 33 #[.pointer (some ⟨g,0,none⟩),.int .i64 e,.int .i64 a] w fun r w'=>r=.returned (.tuple #[])∧Only g w w'∧qo w' g (rF e a st):=by
 have hlt:=h.lt
 obtain ⟨s1,s2⟩:=st
 unfold qo at h
 simp only at h
 obtain ⟨⟨k0,k1⟩,f0,f1⟩:=cell2 h
 by_cases h0:s1=0
 ·subst h0
  rw [show rF e a (0,s2)=(e,a) from if_pos rfl]
  go_enter Tryz.func33,Tryz.ntmps33
  go_wp2_with fail
  first
   | refine bodyPost_end (results_none rfl _ _ _) rfl ?_
   | refine ano (results_none rfl _ _ _) rfl ?_
  refine ⟨rfl,⟨rfl,rfl,rfl,by simp [World.setCell],fun k hk hne=>?_⟩,N9 (k:=1) (N9 (k:=0) h)⟩
  exact (ann _ ⟨g,1,none⟩ _ k hne).trans (ann _ ⟨g,0,none⟩ _ k hne)
 ·rw [show rF e a (s1,s2)=(s1,s2) from if_neg h0]
  have h0':(s1 == 0)=false:=by simpa using h0
  go_enter Tryz.func33,Tryz.ntmps33
  go_wp2_with fail
  first
   | refine bodyPost_end (results_none rfl _ _ _) rfl ?_
   | refine ano (results_none rfl _ _ _) rfl ?_
  exact ⟨rfl,Only.refl _ _,h⟩
theorem fG (t:T)(A:Option Addr)(c:Nat)(g:Nat)(st:eY)(w:World)(h:qo w g st) :
 Calls Tryz.prog 57 #[.pointer (some ⟨g,0,none⟩),t.val A c] w fun r w'=>r=.returned (.string t.s)∧Only g w w'∧qo w' g (eF t st):=by
 obtain ⟨k,s,n,l,a⟩:=t
 rw [show eF (.mk k s n l a) st=if nameB s then st else rF 20 a st from rfl]
 simp only [T.val,T.k,T.s,T.n,T.kids,T.at_]
 have hb0:=aG w #[.int .i64 k,.string s,.int .i64 n,.slice A l.length c,.int .i64 a] 71
 have hnm:=anc (name_any s (w.alloc (.cells #[.int .i64 k,.string s,.int .i64 n,.slice A l.length c,.int .i64 a] 71)))
 have hrf:=anc (dD g st 20 a _ (h.kept hb0))
 have h0:=h.kept hb0
 have hx:=lh w k s n A l.length c a
 have hlt:=h.lt
 have HB0:=anc hb0
 clear hb0 h
 generalize l.length=m at *
 generalize nameB s=q at *
 cases q
 ·go_enter Tryz.func57,Tryz.ntmps57
  go_wp2_with fail
  refine (hnm.out).mono ?_
  rintro e w' ⟨rfl,rfl⟩
  go_wp2_with fail
  refine (hrf.out).mono ?_
  rintro e w2 ⟨rfl,ho,hr⟩
  obtain ⟨⟨k0,k1,k2,k3,k4⟩,_,_,_,_,_⟩:=ay ((ho.block w.heap.size (by simp) (by omega)).trans hx)
  have HO:=anc ((aF HB0.out).trans ho)
  clear ho
  go_wp2_with fail
  go_ret
  exact ⟨rfl,HO.out,hr⟩
 ·go_enter Tryz.func57,Tryz.ntmps57
  go_wp2_with fail
  refine (hnm.out).mono ?_
  rintro e w' ⟨rfl,rfl⟩
  go_wp2_with fail
  go_ret
  exact ⟨rfl,aF HB0.out,h0⟩
def Lies (w:World)(S:Nat→Prop)(A:Option Addr)(vs:List Value):Prop:=vs=[]∨∃ b off,A=some ⟨b,off,none⟩∧S b∧∀ j u,vs[j]?=some u→w.cell? ⟨b,off+j,none⟩=some u
theorem Lies.nil_ (w:World)(S:Nat→Prop)(A:Option Addr):Lies w S A []:=.inl rfl
theorem Lies.kept {w w':World} {S:Nat→Prop} {A:Option Addr} {vs:List Value} (h:Lies w S A vs)(hw:∀ k,S k→w'.heap[k]?=w.heap[k]?):Lies w' S A vs:=by
 rcases h with h | ⟨b,off,rfl,hb,hc⟩
 ·exact .inl h
 ·exact .inr ⟨b,off,rfl,hb,fun j u hj=>(anw (hw b hb)).trans (hc j u hj)⟩
theorem Lies.mono {w:World} {S S':Nat→Prop} {A:Option Addr} {vs:List Value} (h:Lies w S A vs)(hS:∀ k,S k→S' k):Lies w S' A vs:=by
 rcases h with h | ⟨b,off,rfl,hb,hc⟩
 ·exact .inl h
 ·exact .inr ⟨b,off,rfl,hS b hb,hc⟩
def strs (l:List ByteArray):List Value:=l.map .string
theorem EJ {l:List ByteArray} {j:Nat} {x:ByteArray} (h:l[j]?=some x):strs (l.take (j+1))=strs (l.take j) ++ [.string x]:=by
 unfold strs
 rw [List.take_add_one,h,List.map_append]
 rfl
theorem lQ {w:World} {base:Nat} {e:TypeId} {z:Nat} {v:Value} {n:Nat} {vs:List Value} (h:w.ownsRow base e z v n vs) {S:Nat→Prop} (hS:∀ g,base≤g→g < w.heap.size→S g) :
 ∃ A c,v=.slice A n c∧n≤c∧Lies w S A vs:=by
 obtain ⟨hl,hcase⟩:=id h
 rcases hcase with ⟨rfl,h0⟩ | ⟨g,cap,cur,rfl,hg,hh,hc,hcap,hsz,htake⟩
 ·subst h0
  exact ⟨none,0,rfl,ank _,.inl (List.eq_nil_of_length_eq_zero (by rw [hl];simp))⟩
 ·refine ⟨some ⟨g,0,none⟩,cap,rfl,hc,.inr ⟨g,0,rfl,hS g hg ?_,fun j u hj=>?_⟩⟩
  ·rcases Nat.lt_or_ge g w.heap.size with hlt | hge
   ·exact hlt
   ·rw [Array.getElem?_eq_none hge] at hh;cases hh
  ·have hj':j < vs.length:=(List.getElem?_eq_some_iff.1 hj).1
   rw [Nat.zero_add,h.cellAt j (by omega)]
   exact hj
theorem rM {w w':World} {g B n:Nat} {e:TypeId} {z:Nat} {v:Value} {xs:List Value} (h:w.ownsRow B e z v n xs)(hb:Only g w w')(hg:g < B):w'.ownsRow B e z v n xs:=by
 refine ⟨h.1,?_⟩
 rcases h.2 with hn | ⟨g',cap,cur,rfl,hg',hgg,rest⟩
 ·exact .inl hn
 ·exact .inr ⟨g',cap,cur,rfl,hg',by rw [hb.block g' (Array.getElem?_eq_some_iff.1 hgg).1 (by omega)];exact hgg,rest⟩
theorem IB {l:List T} {j:Nat} {x:T} (h:l[j]?=some x)(st:eY):dY (l.take (j+1)) st=eF x (dY (l.take j) st):=by
 unfold dY
 rw [List.take_add_one,h,List.foldl_append]
 rfl
theorem o9:(Tryz.prog.info? 9).map (fun i=>(i.zero,i.size,i.bytes))=some (some (.string ByteArray.empty),1,16):=by kernel_rfl
theorem vC (l:List T)(hl:l.length≤600)(A:Option Addr)(c:Nat)(g:Nat)(st:eY)(w:World)(h:qo w g st)(hA:bz w g A l) :
 Calls Tryz.prog 59 #[.pointer (some ⟨g,0,none⟩),.slice A l.length c] w fun r w' =>
  (∃ A' c',r=.returned (.slice A' l.length c')∧l.length≤c'∧Lies w' (fun k=>w.heap.size≤k∧k < w'.heap.size) A' (strs (l.map T.s)))∧Only g w w'∧qo w' g (dY l st):=by
 obtain ⟨ln,oL⟩:∃ ln,ln=l.length:=⟨_,rfl⟩
 have HK:=anc hA
 have hlt:=h.lt
 have HR:=anc h
 have jh:=anc oL
 obtain ⟨i0,hi,hz0,hz1,hz2⟩:=info_parts o9
 rw [← oL] at hl ⊢
 clear hA h oL
 go_enter Tryz.func59,Tryz.ntmps59
 go_wp2_with fail
 go_loopw [5,10] (fun v i wr=>∃ (j:Nat)(A':Option Addr)(c':Nat),j≤ln∧i=.int .i64 j∧v=.slice A' j c'∧wr.ownsRow w.heap.size 9 1 (.slice A' j c') j (strs ((l.map T.s).take j))∧Only g w wr∧Hid (qo wr g (dY (l.take j) st))) (fun _ i _=>ln - (intOf i).toNat)
 case atStart=>exact ⟨0,none,0,Nat.zero_le _,rfl,rfl,⟨rfl,.inl ⟨rfl,rfl⟩⟩,Only.refl _ _,HR⟩
 case round =>
  obtain ⟨j,A',c',hj,rfl,rfl,hown,ho,hra⟩:=hrel
  have HO:=anc hown
  have HB:=anc ho
  have hs:=ho.size
  clear hown ho
  by_cases hlt2:j < ln
  ·obtain ⟨x,hx⟩:∃ x,l[j]?=some x:=⟨_,anr (by rw [← jh.out];exact hlt2)⟩
   have htk:=anc (EJ (l:=l.map T.s) (j:=j) (x:=x.s) (by rw [List.getElem?_map,hx];rfl))
   have hrs:=anc (IB hx st)
   obtain ⟨b,o,A2,c2,hA2,hbl,m1,m2,m3,m4,m5,hcx,hKx⟩:∃ b o A2 c2,A=some ⟨b,o,none⟩∧b < wr.heap.size∧wr.cell? ⟨b,o+j * 5,none⟩=some (.int .i64 x.k)∧wr.cell? ⟨b,o+j * 5+1,none⟩=some (.string x.s) ∧
    wr.cell? ⟨b,o+j * 5+2,none⟩=some (.int .i64 x.n)∧wr.cell? ⟨b,o+j * 5+3,none⟩=some (.slice A2 x.kids.length c2)∧wr.cell? ⟨b,o+j * 5+4,none⟩=some (.int .i64 x.at_)∧x.kids.length≤c2∧True:=by
    have hKK:=HK.out.low (HB.out.below (B:=g) (Nat.le_of_lt hlt) (ank _))
    obtain ⟨b,o,A2,c2,e0,e1,e2,e3,e4,e5,e6,e7,_⟩:=(hKK.more (B':=wr.heap.size) (by omega)).cu wr (anl _ _) j x hx
    exact ⟨b,o,A2,c2,e0,e1,e2,e3,e4,e5,e6,e7,trivial⟩
   subst hA2
   obtain ⟨wx,dN⟩:∃ wx,wx=wr.alloc (.cells #[.int .i64 x.k,.string x.s,.int .i64 x.n,.slice A2 x.kids.length c2,.int .i64 x.at_] 71):=⟨_,rfl⟩
   have hbx:Below wr.heap.size wr wx:=by rw [dN];exact (anl _ _).alloc (ank _) _
   have hnx:wx.heap[wr.heap.size]?=some (.cells #[.int .i64 x.k,.string x.s,.int .i64 x.n,.slice A2 x.kids.length c2,.int .i64 x.at_] 71 (0,0)):=by rw [dN];exact anm wr _
   have hcl:=anc (fG x A2 c2 g _ wx (hra.out.kept hbx))
   have jM:=anc dN
   have iJ:=anc hbx
   obtain ⟨⟨n0,n1',n2',n3,n4⟩,_,_,_,_,_⟩:=ay hnx
   have hsx:wr.heap.size≤wx.heap.size:=hbx.size
   rw [← hrs.out] at hcl
   clear hx hKx hcx dN hbx hnx hra
   obtain ⟨xk,xs,xn,xl,xa⟩:=x
   simp only [T.val,T.k,T.s,T.n,T.kids,T.at_] at m1 m2 m3 m4 m5 hcl jM n0 n1' n2' n3 n4 htk
   generalize xl.length=xm at *
   go_upto_region 5 with (fail)
   rw [← jM.out]
   go_wp2_with fail
   refine (hcl.out).mono ?_
   rintro e w2 ⟨rfl,ho2,hr2⟩
   have HR2:=anc hr2
   have O9:=anc (rM (own_below HO.out iJ.out) ho2 hlt)
   have HB2:=anc ((HB.out.bel iJ.out).trans ho2)
   have hs2:=HB2.out.size
   clear ho2 hr2
   go_wp2_with (at_builtin;refine wpList_append_own _ rfl _ _ 23 rfl w.heap.size 9 i0 _ 1 16 Tryz.underlying23 hi hz0 hz1 hz2 rfl (by decide) (.slice A' j c') j (strs ((l.map T.s).take j)) rfl (own_below O9.out ((anl w2.heap.size w2).alloc (ank _) _)) ⟨w2.heap.size,0,none⟩ 1 1 [.string xs] rfl rfl ?c1 ?c2 ?c3 ?c4 ?c5 ?_)
   case c1=>exact World.news_of_block (anm w2 _)
   case c2=>first | rfl | (intro u hu;simp at hu;subst hu;rfl)
   case c3=>unfold maxLen;omega
   case c4=>omega
   case c5=>first | omega | (simp;omega)
   intro v' w5 hown5 hgrow _
   have Ig:=(HB2.out.alloc (.cells #[.string xs] 9)).grown hgrow (fun k e=>(O9.out.lt k e).1)
   have hR5:qo w5 g (dY (List.take (j+1) l) st):=by
    refine (hgrow.block g (by simp;omega) (fun e=>?_)).trans (HR2.out.kept ((anl _ _).alloc (ank _) _))
    have:=(O9.out.lt g e.symm).1
    omega
   obtain ⟨g5,cap5,VR,_⟩:=hown5.form (by omega)
   subst VR
   have fV:Hid (w5.ownsRow w.heap.size 9 1 (.slice (some ⟨g5,0,none⟩) (j+1) cap5) (j+1) (strs ((l.map T.s).take (j+1)))):=anc (by
    rw [htk.out]
    exact hown5)
   have fP:=anc Ig
   have uG:=anc hR5
   clear hown5 hgrow Ig hR5
   go_wp2_with fail
   go_roundw
   case rel=>exact ⟨j+1,_,cap5,by omega,by go_num,rfl,fV.out,fP.out,uG⟩
   case measure=>simp [intOf];omega
  ·obtain rfl:j=ln:=by omega
   obtain ⟨A3,c3,e3,hc3,hL⟩:=lQ HO.out (S:=fun k=>w.heap.size≤k∧k < wr.heap.size) (fun k h1 h2=>⟨h1,h2⟩)
   obtain ⟨rfl,rfl⟩:A'=A3∧c'=c3:=by injection e3 with e4 _ e5;exact ⟨e4,e5⟩
   have hml:(l.map T.s).take j=l.map T.s:=List.take_of_length_le (by rw [List.length_map];exact Nat.le_of_eq jh.out.symm)
   have YX:l.take j=l:=List.take_of_length_le (Nat.le_of_eq jh.out.symm)
   rw [hml] at hL
   have HL:=anc hL
   have IC:Hid (qo wr g (dY l st)):=by rw [YX] at hra;exact hra
   clear hL hra e3
   go_wp2_with fail
   go_ret
   exact ⟨⟨A',c',rfl,hc3,HL.out⟩,HB.out,IC.out⟩
theorem wR {fn:Func} {p:Tmp} (h:fn.results=#[.cell p 38]) {tmps:Array Value} {w:World} {g:Nat} {x0 x1 x2 x3:Value} {t:TypeId}
 (hp:tmps.getD p undef=.pointer (some ⟨g,0,none⟩))(hg:w.heap[g]?=some (.cells #[x0,x1,x2,x3] t (0,0))):(results fn tmps).run Tryz.prog w=.ok (.agg #[x0,x1,x2,x3]) w:=by
 have hp':tmps[p]?.getD undef=.pointer (some ⟨g,0,none⟩):=by simpa using hp
 have hl:=run_loadVar_row (P:=Tryz.prog) w g t 38 #[x0,x1,x2,x3] (0,0) _ hg Tryz.underlying38 rfl (by show _=some 4;kernel_rfl)
 simp [results,h,hp',asAddr,hl]
theorem EK (t:T)(A:Option Addr)(c:Nat)(g:Nat)(st:eY)(w:World)(h:qo w g st)(hc:t.kids.length≤c)(hA:bz w w.heap.size A t.kids) :
 Calls Tryz.prog 58 #[.pointer (some ⟨g,0,none⟩),t.val A c] w fun r w' =>
  (∃ A' c',r=.returned ((aI t).1.val A' c')∧gy w' (fun k=>w.heap.size≤k∧k < w'.heap.size) A' (aI t).1.kids)∧Only g w w'∧qo w' g (kW t st):=by
 obtain ⟨k,s,n,l,a⟩:=t
 simp only [T.val,T.k,T.s,T.n,T.kids,T.at_] at hc hA ⊢
 have hlt:=h.lt
 obtain ⟨wa,nC⟩:∃ wa,wa=w.alloc (.cells #[.int .i64 k,.string s,.int .i64 n,.slice A l.length c,.int .i64 a] 71):=⟨_,rfl⟩
 have hba:Below w.heap.size w wa:=by rw [nC];exact (anl _ _).alloc (ank _) _
 have hsa:wa.heap.size=w.heap.size+1:=by rw [nC];simp
 have hxa:wa.heap[w.heap.size]?=some (.cells #[.int .i64 k,.string s,.int .i64 n,.slice A l.length c,.int .i64 a] 71 (0,0)):=by rw [nC];exact anm w _
 obtain ⟨w1,aK⟩:∃ w1,w1=wa.alloc (.cells #[.int .i64 0,.string ⟨#[]⟩,.int .i64 0,.slice none 0 0] 38):=⟨_,rfl⟩
 have hb1:Below wa.heap.size wa w1:=by rw [aK];exact (anl _ _).alloc (ank _) _
 have hs1:w1.heap.size=w.heap.size+2:=by rw [aK];simp;omega
 have hr1:w1.heap[w.heap.size+1]?=some (.cells #[.int .i64 0,.string ⟨#[]⟩,.int .i64 0,.slice none 0 0] 38 (0,0)):=by rw [aK,← hsa];exact anm wa _
 have hx1:w1.heap[w.heap.size]?=some (.cells #[.int .i64 k,.string s,.int .i64 n,.slice A l.length c,.int .i64 a] 71 (0,0)):=(hb1.block _ (by omega)).trans hxa
 have hbw:Below w.heap.size w w1:=hba.trans (hb1.mono (by omega))
 have hrd:=anc (RI (.mk k s n l a) A c w1 hc ((hA.low hbw).more hbw.size))
 have HW1:=anc (show w1=(w.alloc (.cells #[.int .i64 k,.string s,.int .i64 n,.slice A l.length c,.int .i64 a] 71)).alloc (.cells #[.int .i64 0,.string ⟨#[]⟩,.int .i64 0,.slice none 0 0] 38) by rw [aK,nC])
 have HR:=anc (h.kept hbw)
 have gU:=anc hx1
 have HR1:=anc hr1
 have HB1:=anc hbw
 obtain ⟨⟨k0,k1,k2,k3,k4⟩,_,_,_,_,_⟩:=ay hx1
 rw [show kW (.mk k s n l a) st=if (aI (.mk k s n l a)).2.1=0 then st else rF (aI (.mk k s n l a)).2.1 (aI (.mk k s n l a)).2.2 st from rfl]
 generalize aI (.mk k s n l a)=q at *
 obtain ⟨e,y,z⟩:=q
 obtain ⟨ek,es,en,el⟩:=e
 simp only [T.val,E.val,E.k,E.s,E.n,E.kids,T.k,T.s,T.n,T.kids,T.at_] at hrd ⊢
 clear nC hba hsa hxa aK hb1 hr1 hx1 hbw h hA wa hc
 have hs1':w.heap.size+1 < w1.heap.size:=by omega
 clear hs1
 generalize l.length=m at *
 obtain ⟨em,eem⟩:∃ em,em=el.length:=⟨_,rfl⟩
 rw [← eem] at hrd ⊢
 clear eem
 go_enter Tryz.func58,Tryz.ntmps58
 go_upto_region 1 with (fail)
 rw [← HW1.out]
 go_wp2_with fail
 refine (hrd.out).mono ?_
 rintro r w2 ⟨⟨A',c',rfl,hX⟩,hb⟩
 have hs2:=hb.size
 have HX:=anc hX
 have HRA:=anc (HR.out.kept hb)
 have HB2:=anc (HB1.out.trans (hb.mono HB1.out.size))
 have HT2:=anc ((hb.block (w.heap.size+1) hs1').trans HR1.out)
 clear hb hX
 obtain ⟨w3,lI⟩:∃ w3,w3=w2.alloc (.cells #[.int .i64 ek,.string es,.int .i64 en,.slice A' em c'] 38):=⟨_,rfl⟩
 have hb3:Below w2.heap.size w2 w3:=by rw [lI];exact (anl _ _).alloc (ank _) _
 have hs3:w2.heap.size < w3.heap.size:=by rw [lI];simp
 have hx3:w3.heap[w2.heap.size]?=some (.cells #[.int .i64 ek,.string es,.int .i64 en,.slice A' em c'] 38 (0,0)):=by rw [lI];exact anm w2 _
 have HW3:=anc lI
 have mP:=anc hx3
 have HB3:=anc hb3
 have HRB:=anc (HRA.out.kept hb3)
 have HT3:=anc ((hb3.block (w.heap.size+1) (by omega)).trans HT2.out)
 clear lI hb3 hx3
 have hrf:=anc (dD g st y z w3 HRB.out)
 go_upto_region 2 with (fail)
 rw [← HW3.out]
 by_cases h0:y=0
 ·subst h0
  obtain ⟨⟨p0,p1,p2,p3⟩,_,_,_,_⟩:=bQ mP.out
  obtain ⟨⟨r0,r1,r2,r3⟩,s0,s1,s2,s3⟩:=bQ HT3.out
  clear hrf
  go_wp2_with fail
  refine ano (wR rfl rfl (aZ HT3.out)) rfl ?_
  first
   | refine ⟨⟨A',c',rfl,?_⟩,?_,?_⟩
   | refine ⟨⟨A',⟨c',rfl⟩,?_⟩,?_,?_⟩
  ·exact (HX.out.kept fun k hk=>(iT (by have:=hk.1;omega)).trans (HB3.out.block k hk.2)).mono fun k hk=>⟨by have:=hk.1;omega,anu (by have:=hk.2;omega) oU.symm⟩
  ·exact aF (bF (HB2.out.trans (HB3.out.mono (by have:=HB2.out.size;omega))) (Nat.le_succ _))
  ·try rw [if_pos rfl]
   exact (iT (by omega)).trans HRB.out
 ·have h0':(y == 0)=false:=by simpa using h0
  go_wp2_with fail
  refine (hrf.out).mono ?_
  rintro r w4 ⟨rfl,ho,hr4⟩
  have HO:=anc ho
  have HR4:=anc hr4
  have qU:=anc ((ho.block w2.heap.size (by omega) (by omega)).trans mP.out)
  have HT4:=anc ((ho.block (w.heap.size+1) (by omega) (by omega)).trans HT3.out)
  have hs4:=ho.size
  clear ho hr4
  obtain ⟨⟨p0,p1,p2,p3⟩,_,_,_,_⟩:=bQ qU.out
  obtain ⟨⟨r0,r1,r2,r3⟩,s0,s1,s2,s3⟩:=bQ HT4.out
  go_wp2_with fail
  refine ano (wR rfl rfl (aZ HT4.out)) rfl ?_
  first
   | refine ⟨⟨A',c',rfl,?_⟩,?_,?_⟩
   | refine ⟨⟨A',⟨c',rfl⟩,?_⟩,?_,?_⟩
  ·exact (HX.out.kept fun k hk=>(iT (by have:=hk.1;omega)).trans ((HO.out.block k (by have:=hk.2;omega) (by have:=hk.1;omega)).trans (HB3.out.block k hk.2))).mono fun k hk=>⟨by have:=hk.1;omega,anu (by have:=hk.2;omega) oU.symm⟩
  ·exact ((((((aF (HB2.out.trans (HB3.out.mono (by have:=HB2.out.size;omega)))).trans HO.out).aA (p:=⟨w.heap.size+1,0,none⟩) (Nat.le_succ _) _).aA (p:=⟨w.heap.size+1,1,none⟩) (Nat.le_succ _) _).aA (p:=⟨w.heap.size+1,2,none⟩) (Nat.le_succ _) _).aA (p:=⟨w.heap.size+1,3,none⟩) (Nat.le_succ _) _)
  ·try rw [if_neg h0]
   exact (iT (by omega)).trans HR4.out
end Go.Proofs.YtjhkihkiebnpaaaGreatDoor
