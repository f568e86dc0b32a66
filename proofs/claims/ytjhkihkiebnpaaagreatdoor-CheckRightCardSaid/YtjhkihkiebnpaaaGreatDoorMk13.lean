/-
  The reference's Read of expressions: the refusals.
-/
import Derived.Test.YtjhkihkiebnpaaaGreatDoorMk12
import Derived.Maps.AppendAt
import Derived.Deep.AppendLies
import Derived.Test.YtjhkihkiebnpaaaGreatDoorMk8
import Derived.Test.YtjhkihkiebnpaaaGreatDoorMk2
import Derived.Test.YtjhkihkiebnpaaaGreatDoorMk4
set_option linter.unusedVariables false
set_option linter.unusedSimpArgs false
set_option maxRecDepth 100000
set_option maxHeartbeats 40000000
namespace Go.Proofs.YtjhkihkiebnpaaaGreatDoor
open Go.RowKit
theorem Aq (s:ByteArray)(n:Int)(l:List T)(a:Int)(hbad:l=[]∨∃ x ks,l=x::ks∧(x.k≠2∨dB x.s.toList=0))(A:Option Addr)(c:Nat)(w:World)(hA:bz w w.heap.size A l) :
 Calls Tryz.prog 84 #[.agg #[.int .i64 1,.string s,.int .i64 n,.slice A l.length c,.int .i64 a]] w (kJ (zeroE,12,a) w):=by
 obtain ⟨w1,aK⟩:∃ w1,w1=(w.alloc (.cells #[.int .i64 1,.string s,.int .i64 n,.slice A l.length c,.int .i64 a] 86)).alloc (.cells #[.int .i64 0,.string ⟨#[]⟩,.int .i64 0,.slice none 0 0] 38):=⟨_,rfl⟩
 have hb1:Below w.heap.size w w1:=by rw [aK];exact ((anl _ _).alloc (ank _) _).alloc (by simp) _
 have HB1:=anc hb1
 have hB:Hid (w1.heap[w.heap.size+1]?=some (.cells #[.int .i64 0,.string ⟨#[]⟩,.int .i64 0,.slice none 0 0] 38 (0,0))):=anc (by
  rw [aK]
  have:=anm (w.alloc (.cells #[.int .i64 1,.string s,.int .i64 n,.slice A l.length c,.int .i64 a] 86)) (.cells #[.int .i64 0,.string ⟨#[]⟩,.int .i64 0,.slice none 0 0] 38)
  simpa using this)
 have oD:Hid (w1.cell? ⟨w.heap.size,3,none⟩=some (.slice A l.length c)∧w1.cell? ⟨w.heap.size,4,none⟩=some (.int .i64 a)):=anc (by rw [aK];simp)
 have d0:w1.cell? ⟨w.heap.size,0,none⟩=some (.int .i64 1):=by rw [aK];simp
 have HW1:=anc aK
 have HA:=anc ((hA.low hb1).more hb1.size)
 clear aK hb1 hA
 rcases hbad with rfl | ⟨x,ks,rfl,hx⟩
 ·simp only [List.length_nil] at oD HW1 ⊢
  go_enter Tryz.func84,Tryz.ntmps84
  go_upto_region 1 with (fail)
  rw [←HW1.out]
  obtain ⟨⟨k0,k1,k2,k3⟩,f0,f1,f2,f3⟩:=bQ hB.out
  obtain ⟨d3,d4⟩:=oD.out
  go_wp2_with fail
  go_region
  go_wp2_with fail
  refine ano (aS rfl rfl rfl rfl (show ((nO w1 (w.heap.size+1) _ _ _ _).drew).heap[w.heap.size+1]?=_ from aZ hB.out)) rfl ?_
  exact ⟨⟨none,0,rfl,.nil _⟩,(bF HB1.out (Nat.le_succ _)).drew⟩
 ·obtain ⟨b,o,A',c',rfl,hlt,x0,x1,_,_,_,_,_⟩:=HA.out.cu w1 (anl _ _) 0 x rfl
  rw [Nat.zero_mul,Nat.add_zero] at x0 x1
  have hlen:(x::ks).length≤9223372036854775807:=HA.out.len
  obtain ⟨m,em⟩:∃ m,m=ks.length:=⟨_,rfl⟩
  simp only [List.length_cons,←em] at oD HW1 hlen ⊢
  have hm0:(0:Int)<((m+1:Nat):Int):=by omega
  have hm1:(((m+1:Nat):Int)==0)=false:=by simp;omega
  obtain ⟨xk,xs,xn,xl,xa⟩:=x
  simp only [T.k,T.s] at x0 x1 hx
  have hC:=anc (uq xs w1)
  clear HA em
  by_cases hk:xk=2
  ·subst hk
   have hc0:dB xs.toList=0:=by
    rcases hx with hx | hx
    ·exact absurd rfl hx
    ·exact hx
   rw [hc0] at hC
   clear hx hc0
   go_enter Tryz.func84,Tryz.ntmps84
   go_upto_region 1 with (fail)
   rw [←HW1.out]
   obtain ⟨⟨k0,k1,k2,k3⟩,f0,f1,f2,f3⟩:=bQ hB.out
   obtain ⟨d3,d4⟩:=oD.out
   go_wp2_with fail
   refine hC.out.mono ?_
   rintro e w2 ⟨rfl,rfl⟩
   go_wp2_with fail
   go_region
   go_wp2_with fail
   refine ano (aS rfl rfl rfl rfl (show ((nO w1 (w.heap.size+1) _ _ _ _).drew).heap[w.heap.size+1]?=_ from aZ hB.out)) rfl ?_
   exact ⟨⟨none,0,rfl,.nil _⟩,(bF HB1.out (Nat.le_succ _)).drew⟩
  ·have hk':(xk != 2)=true:=by simpa using hk
   clear hx hC
   go_enter Tryz.func84,Tryz.ntmps84
   go_upto_region 1 with (fail)
   rw [←HW1.out]
   obtain ⟨⟨k0,k1,k2,k3⟩,f0,f1,f2,f3⟩:=bQ hB.out
   obtain ⟨d3,d4⟩:=oD.out
   go_wp2_with fail
   go_region
   go_wp2_with fail
   refine ano (aS rfl rfl rfl rfl (show ((nO w1 (w.heap.size+1) _ _ _ _).drew).heap[w.heap.size+1]?=_ from aZ hB.out)) rfl ?_
   exact ⟨⟨none,0,rfl,.nil _⟩,(bF HB1.out (Nat.le_succ _)).drew⟩
theorem Et (s:ByteArray)(n:Int)(x:T)(ks:List T)(a:Int)(hk2:x.k=2)(hc0:dB x.s.toList≠0)(hne:ks.length≠dB x.s.toList)(A:Option Addr)(c:Nat)(w:World)(hA:bz w w.heap.size A (x::ks)) :
 Calls Tryz.prog 84 #[.agg #[.int .i64 1,.string s,.int .i64 n,.slice A (x::ks).length c,.int .i64 a]] w (kJ (zeroE,23,a) w):=by
 obtain ⟨m,em⟩:∃ m,m=ks.length:=⟨_,rfl⟩
 have hlen:(x::ks).length≤9223372036854775807:=hA.len
 rw [←em] at hne
 simp only [List.length_cons,←em] at hlen ⊢
 obtain ⟨w1,aK⟩:∃ w1,w1=(w.alloc (.cells #[.int .i64 1,.string s,.int .i64 n,.slice A (m+1) c,.int .i64 a] 86)).alloc (.cells #[.int .i64 0,.string ⟨#[]⟩,.int .i64 0,.slice none 0 0] 38):=⟨_,rfl⟩
 have hb1:Below w.heap.size w w1:=by rw [aK];exact ((anl _ _).alloc (ank _) _).alloc (by simp) _
 have hws:w1.heap.size=w.heap.size+2:=by rw [aK];simp
 have HB1:=anc hb1
 have hB:Hid (w1.heap[w.heap.size+1]?=some (.cells #[.int .i64 0,.string ⟨#[]⟩,.int .i64 0,.slice none 0 0] 38 (0,0))):=anc (by
  rw [aK]
  have:=anm (w.alloc (.cells #[.int .i64 1,.string s,.int .i64 n,.slice A (m+1) c,.int .i64 a] 86)) (.cells #[.int .i64 0,.string ⟨#[]⟩,.int .i64 0,.slice none 0 0] 38)
  simpa using this)
 have oD:Hid (w1.cell? ⟨w.heap.size,3,none⟩=some (.slice A (m+1) c)∧w1.cell? ⟨w.heap.size,4,none⟩=some (.int .i64 a)):=anc (by rw [aK];simp)
 have d0:w1.cell? ⟨w.heap.size,0,none⟩=some (.int .i64 1):=by rw [aK];simp
 have HW1:=anc aK
 obtain ⟨b,o,A',c',rfl,hlt,x0,x1,_,_,_,_,_⟩:=((hA.low hb1).more hb1.size).cu w1 (anl _ _) 0 x rfl
 rw [Nat.zero_mul,Nat.add_zero] at x0 x1
 have hm0:(0:Int)<((m+1:Nat):Int):=by omega
 have hm1:(((m+1:Nat):Int)==0)=false:=by simp;omega
 obtain ⟨xk,xs,xn,xl,xa⟩:=x
 simp only [T.k,T.s] at x0 x1 hk2 hc0 hne
 subst hk2
 have hC:=anc (uq xs)
 generalize dB xs.toList=cn at *
 have hcz:((cn:Int)==0)=false:=by simp;omega
 have hn1:((m:Int) != (cn:Int))=true:=by simp;omega
 clear hA em aK hb1 hc0 hne
 go_enter Tryz.func84,Tryz.ntmps84
 go_upto_region 1 with (fail)
 rw [←HW1.out]
 obtain ⟨d3,d4⟩:=oD.out
 go_wp2_with fail
 refine (hC.out _).mono ?_
 rintro e w2 ⟨rfl,rfl⟩
 go_upto_region 12 with (fail)
 obtain ⟨⟨k0,k1,k2,k3⟩,f0,f1,f2,f3⟩:=bQ hB.out
 go_quiet ((go_at_call 127;exact Calls.quiet_of_same ((hC.out _).mono fun e w' ⟨h1,h2⟩=>⟨h1,h2.symm⟩)))
 go_wp2_with fail
 go_region
 go_wp2_with fail
 refine ano (aS rfl rfl rfl rfl (show (nO (w1.drewN _) (w.heap.size+1) _ _ _ _).heap[w.heap.size+1]?=_ from aZ (show (w1.drewN _).heap[w.heap.size+1]?=_ from hB.out))) rfl ?_
 exact ⟨⟨none,0,rfl,.nil _⟩,bF (below_drewN HB1.out _) (Nat.le_succ _)⟩
theorem Ht (s:ByteArray)(n:Int)(x:T)(ks:List T)(a:Int)(hk2:x.k=2)(hc0:dB x.s.toList≠0)(heq:ks.length=dB x.s.toList)(hM:∀ t∈ks,nK t)(hF:∀ t∈ks,t.Fine)(A:Option Addr)(c:Nat)(w:World)(hcap:(x::ks).length≤c)(hA:bz w w.heap.size A (x::ks)) :
 Calls Tryz.prog 84 #[.agg #[.int .i64 1,.string s,.int .i64 n,.slice A (x::ks).length c,.int .i64 a]] w (kJ (if (aN ks).2.1=0 then (.mk 4 x.s 0 (aN ks).1,0,0) else (zeroE,(aN ks).2.1,(aN ks).2.2)) w):=by
 obtain ⟨m,em⟩:∃ m,m=ks.length:=⟨_,rfl⟩
 have hlen:(x::ks).length≤9223372036854775807:=hA.len
 rw [←em] at heq
 simp only [List.length_cons,←em] at hlen hcap ⊢
 obtain ⟨w1,aK⟩:∃ w1,w1=(w.alloc (.cells #[.int .i64 1,.string s,.int .i64 n,.slice A (m+1) c,.int .i64 a] 86)).alloc (.cells #[.int .i64 0,.string ⟨#[]⟩,.int .i64 0,.slice none 0 0] 38):=⟨_,rfl⟩
 have hb1:Below w.heap.size w w1:=by rw [aK];exact ((anl _ _).alloc (ank _) _).alloc (by simp) _
 have hws:w1.heap.size=w.heap.size+2:=by rw [aK];simp
 have HB1:=anc hb1
 have hB:Hid (w1.heap[w.heap.size+1]?=some (.cells #[.int .i64 0,.string ⟨#[]⟩,.int .i64 0,.slice none 0 0] 38 (0,0))):=anc (by
  rw [aK]
  have:=anm (w.alloc (.cells #[.int .i64 1,.string s,.int .i64 n,.slice A (m+1) c,.int .i64 a] 86)) (.cells #[.int .i64 0,.string ⟨#[]⟩,.int .i64 0,.slice none 0 0] 38)
  simpa using this)
 have oD:Hid (w1.cell? ⟨w.heap.size,3,none⟩=some (.slice A (m+1) c)∧w1.cell? ⟨w.heap.size,4,none⟩=some (.int .i64 a)):=anc (by rw [aK];simp)
 have d0:w1.cell? ⟨w.heap.size,0,none⟩=some (.int .i64 1):=by rw [aK];simp
 have HW1:=anc aK
 have HK:=anc ((hA.low hb1).more hb1.size)
 obtain ⟨b,o,A',c',rfl,hlt,x0,x1,_,_,_,_,_⟩:=((hA.low hb1).more hb1.size).cu w1 (anl _ _) 0 x rfl
 rw [Nat.zero_mul,Nat.add_zero] at x0 x1
 have hm0:(0:Int)<((m+1:Nat):Int):=by omega
 have hm1:(((m+1:Nat):Int)==0)=false:=by simp;omega
 obtain ⟨xk,xs,xn,xl,xa⟩:=x
 simp only [T.k,T.s] at x0 x1 hk2 hc0 heq ⊢
 subst hk2
 have hC:=anc (uq xs)
 have KU:m≤3:=by
  have hcb:dB xs.toList≤3:=by
   unfold dB
   repeat' split
   all_goals omega
  omega
 generalize dB xs.toList=cn at *
 have hcz:((cn:Int)==0)=false:=by simp;omega
 have hn1:((m:Int) != (cn:Int))=false:=by simp;omega
 have HM:=anc (fun t ht=>hM t ht (hF t ht))
 have wF:=anc em
 have abE:0<m:=by omega
 obtain ⟨Q,hQ⟩:∃ Q:E×Int×Int,Q=(if (aN ks).2.1=0 then (.mk 4 xs 0 (aN ks).1,0,0) else (zeroE,(aN ks).2.1,(aN ks).2.2)):=⟨_,rfl⟩
 have HQ:=anc hQ
 rw [←hQ]
 clear hA em aK hb1 hc0 heq hM hF hQ
 go_enter Tryz.func84,Tryz.ntmps84
 go_upto_region 1 with (fail)
 rw [←HW1.out]
 obtain ⟨d3,d4⟩:=oD.out
 go_wp2_with fail
 refine (hC.out _).mono ?_
 rintro e w2 ⟨rfl,rfl⟩
 go_upto_region 12 with (fail)
 obtain ⟨⟨k0,k1,k2,k3⟩,f0,f1,f2,f3⟩:=bQ hB.out
 go_quiet ((go_at_call 127;exact Calls.quiet_of_same ((hC.out _).mono fun e w' ⟨h1,h2⟩=>⟨h1,h2.symm⟩)))
 generalize hwx:w1.drewN nq=wx at *
 have hbx:Below w1.heap.size w1 wx:=by rw [←hwx];exact below_drewN (anl _ _) _
 have hsx:wx.heap.size=w.heap.size+2:=by rw [←hwx];exact hws
 have hbq:Below wx.heap.size wx (wx.alloc (.cells #[.int .i64 4,.string xs,.int .i64 0,.slice none 0 0] 38)):=(anl _ _).alloc (ank _) _
 have YU:(wx.alloc (.cells #[.int .i64 4,.string xs,.int .i64 0,.slice none 0 0] 38)).heap.size=w.heap.size+3:=by simp;omega
 have HXQ:Hid ((wx.alloc (.cells #[.int .i64 4,.string xs,.int .i64 0,.slice none 0 0] 38)).heap[w.heap.size+2]?=some (.cells #[.int .i64 4,.string xs,.int .i64 0,.slice none 0 0] 38 (0,0))):=anc (by rw [←hsx];exact anm wx _)
 have HRQ:Hid ((wx.alloc (.cells #[.int .i64 4,.string xs,.int .i64 0,.slice none 0 0] 38)).heap[w.heap.size+1]?=some (.cells #[.int .i64 0,.string ⟨#[]⟩,.int .i64 0,.slice none 0 0] 38 (0,0))):=anc ((hbq.block _ (by omega)).trans ((hbx.block _ (by omega)).trans hB.out))
 have VK:Hid (Below w1.heap.size w1 (wx.alloc (.cells #[.int .i64 4,.string xs,.int .i64 0,.slice none 0 0] 38))):=anc (hbx.trans (hbq.mono (by omega)))
 have qZ:Hid (Below w.heap.size w (wx.alloc (.cells #[.int .i64 4,.string xs,.int .i64 0,.slice none 0 0] 38))):=anc (HB1.out.trans (VK.out.mono (by omega)))
 have x1:wx.cell? ⟨b,o+1,none⟩=some (.string xs):=(hbx.cell (p:=⟨b,o+1,none⟩) hlt).trans x1
 have dx3:wx.cell? ⟨w.heap.size,3,none⟩=some (.slice (some ⟨b,o,none⟩) (m+1) c):=(hbx.cell (p:=⟨w.heap.size,3,none⟩) (show w.heap.size<_ by omega)).trans oD.out.1
 have ZD:Hid ((wx.alloc (.cells #[.int .i64 4,.string xs,.int .i64 0,.slice none 0 0] 38)).cell? ⟨w.heap.size,3,none⟩=some (.slice (some ⟨b,o,none⟩) (m+1) c)):=anc ((hbq.cell (p:=⟨w.heap.size,3,none⟩) (show w.heap.size<_ by omega)).trans dx3)
 clear hwx hbx hbq x0 d3 d4 k0 k1 k2 k3 f0 f1 f2 f3
 have hcc:m+1≤c:=hcap
 have hc1:(1:Int)≤((m+1:Nat):Int):=by omega
 go_upto_region 15 with (fail)
 generalize (wx.alloc (.cells #[.int .i64 4,.string xs,.int .i64 0,.slice none 0 0] 38))=wq at *
 clear x1 dx3 hlt hsx
 go_wp2_with fail
 go_loopw [6] (fun i wr=>∃ (j:Nat)(ps:List EP)(v:Value),j≤m∧ps.length=j∧i=.int .i64 ((j+1:Nat):Int)∧wr.heap[w.heap.size+2]?=some (.cells #[.int .i64 4,.string xs,.int .i64 0,v] 38 (0,0)) ∧
  wr.ownsRow wq.heap.size 38 4 v j (iZ ps)∧Hid (∀ p∈ps,gy wr (fun k=>wq.heap.size≤k∧k<wr.heap.size∧v.ownBlock≠some k) p.2.1 p.1.kids)∧Below (w.heap.size+2) wq wr ∧
  Hid (aN ks=(ps.map Prod.fst++(aN (ks.drop j)).1,(aN (ks.drop j)).2.1,(aN (ks.drop j)).2.2))) (fun i _=>m+1-(intOf i).toNat)
 case atStart=>exact ⟨0,[],.slice none 0 0,Nat.zero_le _,rfl,rfl,HXQ.out,World.ownsRow_nil _ _ _ _,anc (fun p hp=>by cases hp),anl _ _,anc rfl⟩
 case round =>
  obtain ⟨j,ps,v,hj,hpl,rfl,hbox,hown,hxk,hb,hzl⟩:=hrel
  have HO:=anc hown
  have HB:=anc hb
  have hs:=hb.size
  have jI:=anc hpl
  have iJ:=anc hbox
  have z3:wr.cell? ⟨w.heap.size,3,none⟩=some (.slice (some ⟨b,o,none⟩) (m+1) c):=(hb.cell (p:=⟨w.heap.size,3,none⟩) (show w.heap.size<_ by omega)).trans ZD.out
  clear hown hpl
  by_cases hlt2:j<m
  ·obtain ⟨x,hx⟩:∃ x,ks[j]?=some x:=⟨_,anr (by rw [←wF.out];exact hlt2)⟩
   have RH:Below w1.heap.size w1 wr:=VK.out.trans (hb.mono (by omega))
   obtain ⟨b',o',A',c',hb',_,c1,c2,c3,c4,c5,hcx,hKx⟩:=HK.out.cu wr RH (j+1) x (by simpa using hx)
   injection hb' with hb'
   injection hb' with hbb hoo
   subst hbb hoo
   have Bv:=HM.out x (anq hx)
   have hst:Hid (aN (ks.drop j)=if (aI x).2.1=0 then ((aI x).1::(aN (ks.drop (j+1))).1,(aN (ks.drop (j+1))).2.1,(aN (ks.drop (j+1))).2.2) else ([],(aI x).2.1,(aI x).2.2)):=anc (by
    obtain ⟨g1,g2⟩:=List.getElem?_eq_some_iff.1 hx
    rw [List.drop_eq_getElem_cons g1,g2,aN])
   clear hx
   obtain ⟨tk,ts,tn,tl,ta⟩:=x
   simp only [T.k,T.s,T.n,T.kids,T.at_] at c1 c2 c3 c4 c5 hKx hcx
   have hcl:=anc (Bv A' c' wr hcx hKx)
   have hlt3:((j+1:Nat):Int)<((m+1:Nat):Int):=by omega
   simp only [T.val,T.k,T.s,T.n,T.kids,T.at_] at hcl
   generalize hq:aI (.mk tk ts tn tl ta)=tq at *
   generalize tl.length=tm at *
   obtain ⟨⟨ek,es,en,el⟩,wy,at2⟩:=tq
   simp only [E.val,E.k,E.s,E.n,E.kids] at hcl hst
   have VL:=hzl
   clear hKx Bv hbox hcx hq hzl RH
   go_wp2_with fail
   refine (hcl.out).mono ?_
   rintro e w3 ⟨⟨A3,c3',rfl,hX⟩,hb3⟩
   have F9:Below wr.heap.size wr w3:=hb3
   have hx3:Below w3.heap.size w3 (w3.alloc (.cells #[.int .i64 ek,.string es,.int .i64 en,.slice A3 el.length c3'] 38)):=(anl _ _).alloc (ank _) _
   have hw3:Hid (Below wr.heap.size wr (w3.alloc (.cells #[.int .i64 ek,.string es,.int .i64 en,.slice A3 el.length c3'] 38))):=anc (F9.trans (hx3.mono F9.size))
   have hN3:Hid ((w3.alloc (.cells #[.int .i64 ek,.string es,.int .i64 en,.slice A3 el.length c3'] 38)).heap[w3.heap.size]?=some (.cells #[.int .i64 ek,.string es,.int .i64 en,.slice A3 el.length c3'] 38 (0,0))):=anc (anm w3 _)
   have VM:Hid ((w3.alloc (.cells #[.int .i64 ek,.string es,.int .i64 en,.slice A3 el.length c3'] 38)).heap[w.heap.size+1]?=some (.cells #[.int .i64 0,.string ⟨#[]⟩,.int .i64 0,.slice none 0 0] 38 (0,0))):=anc ((hw3.out.block _ (by omega)).trans ((HB.out.block _ (by omega)).trans HRQ.out))
   have VN:Hid ((w3.alloc (.cells #[.int .i64 ek,.string es,.int .i64 en,.slice A3 el.length c3'] 38)).heap[w.heap.size+2]?=some (.cells #[.int .i64 4,.string xs,.int .i64 0,v] 38 (0,0))):=anc ((hw3.out.block _ (by omega)).trans iJ.out)
   have hS3:Hid ((w3.alloc (.cells #[.int .i64 ek,.string es,.int .i64 en,.slice A3 el.length c3'] 38)).heap.size=w3.heap.size+1∧wr.heap.size≤w3.heap.size):=anc ⟨by simp,F9.size⟩
   clear F9 hx3
   have hs3:=hw3.out.size
   have mP:=anc hX
   clear hX hb3
   by_cases hw0:wy=0
   ·subst hw0
    obtain ⟨⟨k0,k1,k2,k3⟩,g0,g1,g2,g3⟩:=bQ VN.out
    obtain ⟨⟨n0,n1,n2,n3⟩,m0,m1,m2,m3⟩:=bQ hN3.out
    have hrl:Hid (aN ks=((ps++[((.mk ek es en el:E),A3,c3')]).map Prod.fst++(aN (ks.drop (j+1))).1,(aN (ks.drop (j+1))).2.1,(aN (ks.drop (j+1))).2.2)):=anc (by
     rw [VL.out,hst.out,if_pos rfl];simp)
    have Kw:=anc (own_below HO.out hw3.out)
    clear hst VL hs3
    obtain ⟨i0,hi,hz0,hz1,hz2⟩:=info_parts tZ
    go_wp2_with (at_builtin;refine wpList_append_own_at _ rfl _ _ 22 rfl wq.heap.size 38 i0 _ 4 56 Tryz.underlying22 hi hz0 hz1 hz2 rfl (by decide) _ _ _ rfl (Kw.out.alloc _) ⟨w3.heap.size+1,0,none⟩ 1 1 (EP.cs ((.mk ek es en el:E),A3,c3')) rfl rfl ?c1 ?c2 ?c3 ?c4 ?c5 ?_)
    case c1 =>
     intro i u hu
     match i,hu with
     | 0,hu=>simp [EP.cs,E.k] at hu;subst hu;simp [Addr.add]
     | 1,hu=>simp [EP.cs,E.s] at hu;subst hu;simp [Addr.add]
     | 2,hu=>simp [EP.cs,E.n] at hu;subst hu;simp [Addr.add]
     | 3,hu=>simp [EP.cs,E.kids] at hu;subst hu;simp [Addr.add]
    case c2=>rw [←kY];exact vg _
    case c3=>unfold maxLen;omega
    case c4=>omega
    case c5=>simp;have:=hS3.out.2;omega
    intro v' w5 hown' hgrow _ hat
    have bI:Hid ((w3.alloc (.cells #[.int .i64 ek,.string es,.int .i64 en,.slice A3 el.length c3'] 38)).grownBy w5 v.ownBlock):=anc ((World.grownBy_alloc _ _ _).trans hgrow)
    have gY:Hid (v'.ownBlock=v.ownBlock∨∃ n,v'.ownBlock=some n∧w3.heap.size≤n):=anc (hat.imp_right fun h=>⟨_,h,by first | omega | (simp;omega)⟩)
    obtain ⟨g',cap',rfl,hg1,hg2⟩:=hown'.form (by omega)
    have fV:Hid (w5.ownsRow wq.heap.size 38 4 (.slice (some ⟨g',0,none⟩) (j+1) cap') (j+1) (iZ (ps++[((.mk ek es en el:E),A3,c3')]))):=anc (by rw [mf,kY,YU];exact hown')
    clear hown' hgrow hat k0 k1 k2 k3 g0 g1 g2 g3 n0 n1 n2 n3 m0 m1 m2 m3
    have hE5:Hid (w5.heap[w.heap.size+2]?=some (.cells #[.int .i64 4,.string xs,.int .i64 0,v] 38 (0,0))):=anc ((bI.out.block _ (by have:=hS3.out;omega) (fun e=>by have:=(HO.out.lt _ e.symm).1;omega)).trans VN.out)
    obtain ⟨⟨k0,k1,k2,k3⟩,g0,g1,g2,g3⟩:=bQ hE5.out
    go_wp2_with fail
    go_roundw
    case rel =>
     refine ⟨_,_,_,_,_,_,_,_,_,_,_,_,_,_,_,_,_,_,_,_,_,_,_,_,_,_,_,_,_,_,_,_,_,_,?_,rfl⟩
     have hs5:=bI.out.size
     have aeB:=hS3.out.1
     have YV:=hS3.out.2
     have hother:∀ k,k≠w.heap.size+2→k<w3.heap.size+1→v.ownBlock≠some k→(w5.setCell ⟨w.heap.size+2,3,none⟩ (.slice (some ⟨g',0,none⟩) (j+1) cap')).heap[k]?=(w3.alloc (.cells #[.int .i64 ek,.string es,.int .i64 en,.slice A3 el.length c3'] 38)).heap[k]?:=fun k h1 h2 h3 =>
      (ann w5 ⟨w.heap.size+2,3,none⟩ _ k h1).trans (bI.out.block k (by omega) fun e=>h3 e.symm)
     refine ⟨j+1,ps++[((.mk ek es en el:E),A3,c3')],.slice (some ⟨g',0,none⟩) (j+1) cap',by omega,by rw [List.length_append,jI.out];rfl,by go_num,EC (k:=3) hE5.out,N7 fV.out _ (by show w.heap.size+2<wq.heap.size;omega),anc ?_,?_,hrl⟩
     ·refine Iw hxk.out mP.out hs (fun k h1 h2 h3=>(hother k (by omega) (by omega) h3).trans (hw3.out.block k h2)) (fun k h1 h2=>(hother k (by omega) (by omega) fun e=>by have:=(HO.out.lt _ e).2;omega).trans (heap_alloc_old _ _ h2)) YV ?_ (fun k e=>(HO.out.lt _ e).2) gY.out
      simp only [World.setCell,Array.size_modify]
      omega
     ·exact ((HB.out.trans (hw3.out.mono (by omega))).grown bI.out (by omega) (fun g hg=>by have:=(HO.out.lt g hg).1;omega)).setCell (p:=⟨w.heap.size+2,3,none⟩) (ank _) _
    case measure=>simp [intOf];omega
   ·have hy:(wy != 0)=true:=by simpa using hw0
    have hy':(wy==0)=false:=by simpa using hw0
    have h1:(aN ks).2=(wy,at2):=by rw [VL.out,hst.out,if_neg hw0]
    have hq:Hid (Q=(zeroE,wy,at2)):=anc (by rw [HQ.out,h1,if_neg hw0])
    obtain ⟨⟨q0,q1,q2,q3⟩,f0,f1,f2,f3⟩:=bQ VM.out
    clear h1 hst hs3 VL
    go_wp2_with fail
    refine ano (aS rfl rfl rfl rfl (aZ VM.out)) rfl ?_
    refine ⟨⟨none,0,by rw [hq.out];rfl,by rw [hq.out];exact .nil _⟩,bF (qZ.out.trans ((HB.out.mono (by omega)).trans (hw3.out.mono (by omega)))) (Nat.le_succ _)⟩
  ·obtain rfl:j=m:=by omega
   obtain ⟨k0,k1,k2,k3⟩:=(bQ iJ.out).1
   have hd:ks.drop j=[]:=List.drop_eq_nil_of_le (by rw [←wF.out];exact ank _)
   have h1:aN ks=(ps.map Prod.fst,0,0):=by rw [hzl.out,hd];simp [aN]
   have hq:Hid (Q=(.mk 4 xs 0 (ps.map Prod.fst),0,0)):=anc (by rw [HQ.out,h1,if_pos rfl])
   have hO2:wr.ownsRow wq.heap.size 38 4 v ps.length (iZ ps):=by rw [jI.out];exact HO.out
   have hlj:ps.length≤9223372036854775807:=by rw [jI.out];omega
   obtain ⟨A9,c9,rfl,wG⟩:=tX hO2 hlj (S:=fun k=>wq.heap.size≤k∧k<wr.heap.size) (fun g u1 u2=>⟨u1,u2⟩) (fun p hp=>(hxk.out p hp).mono (fun k hk=>⟨hk.1,hk.2.1⟩))
   have EE:=anc wG
   have hB9:Hid (wr.heap[w.heap.size+1]?=some (.cells #[.int .i64 0,.string ⟨#[]⟩,.int .i64 0,.slice none 0 0] 38 (0,0))):=anc ((HB.out.block _ (by omega)).trans HRQ.out)
   obtain ⟨⟨q0,q1,q2,q3⟩,f0,f1,f2,f3⟩:=bQ hB9.out
   clear hd h1 hO2 hlj wG hxk hzl
   go_wp2_with fail
   refine ano (aS rfl rfl rfl rfl (aZ hB9.out)) rfl ?_
   have hsz:=HB.out.size
   refine ⟨⟨A9,c9,by rw [hq.out];simp [E.val,E.k,E.s,E.n,E.kids],?_⟩,bF (qZ.out.trans (HB.out.mono (by omega))) (Nat.le_succ _)⟩
   rw [hq.out]
   exact (EE.out.kept (fun k hk=>iT (by have:=hk.1;omega))).mono (fun k hk=>⟨by have:=hk.1;omega,anu hk.2 oU.symm⟩)
theorem Hu (s:ByteArray)(n:Int)(l:List T)(a:Int)(hM:∀ t∈l,nK t):nK (.mk 1 s n l a):=by
 intro l9 A c w hcap hA
 obtain ⟨_,_,_,_,_,_,_,_,hF⟩:=l9
 have hr:=EF s n l a
 simp only [T.val,T.k,T.s,T.n,T.kids,T.at_] at hcap hA ⊢
 show Calls _ _ _ _ (kJ (aI (.mk 1 s n l a)) w)
 match l with
 | []=>rw [hr];exact Aq s n [] a (.inl rfl) A c w hA
 | x::ks =>
   simp only at hr
   by_cases h1:x.k=2∧dB x.s.toList≠0
   ·rw [if_pos h1] at hr
    by_cases h2:ks.length=dB x.s.toList
    ·rw [if_pos h2] at hr
     rw [hr]
     exact Ht s n x ks a h1.1 h1.2 h2 (fun t ht=>hM t (List.mem_cons_of_mem _ ht)) (fun t ht=>hF t (List.mem_cons_of_mem _ ht)) A c w hcap hA
    ·rw [if_neg h2] at hr
     rw [hr]
     exact Et s n x ks a h1.1 h1.2 h2 A c w hA
   ·rw [if_neg h1] at hr
    rw [hr]
    exact Aq s n (x::ks) a (.inr ⟨x,ks,rfl,by
     by_cases h3:x.k=2
     ·exact .inr (Decidable.byContradiction fun h4=>h1 ⟨h3,h4⟩)
     ·exact .inl h3⟩) A c w hA
theorem Ar:∀ t,nK t:=T.ind fun k s n l a ih=>by
 by_cases hk:k=1
 ·subst hk
  exact Hu s n l a ih
 ·exact Hr k s n l a hk
structure RC (pb:Nat)(w2:World)(B:Nat)(v2 v3:Value)(ps:List EP)(cs:List ByteArray)(wr:World):Prop where
 box:wr.heap[pb]?=some (.cells #[.int .i64 3,.string ⟨#[]⟩,v2,v3,.slice none 0 0,.slice none 0 0,.slice none 0 0,.slice none 0 0] 27 (0,0))
 pI:wr.ownsRow B 9 1 v3 cs.length (strs cs)
 qY:wr.ownsRow B 38 4 v2 ps.length (iZ ps)
 kids:∀ p∈ps,gy wr (fun k=>B≤k∧k<wr.heap.size∧v2.ownBlock≠some k∧v3.ownBlock≠some k) p.2.1 p.1.kids
 apart:∀ k,v2.ownBlock=some k→v3.ownBlock≠some k
 bel:Below pb w2 wr
 size:B≤wr.heap.size
theorem RC.aas {pb B:Nat} {w2 wr w':World} {v2 v3:Value} {ps:List EP} {cs:List ByteArray} (h:RC pb w2 B v2 v3 ps cs wr)(hb:Below wr.heap.size wr w')(hp:pb<B):RC pb w2 B v2 v3 ps cs w':=by
 have hs:=h.size
 have hs':=hb.size
 exact ⟨(hb.block pb (by omega)).trans h.box,own_below h.pI hb,own_below h.qY hb,
  fun p hp'=>((h.kids p hp').kept fun k hk=>hb.block k hk.2.1).mono fun k hk=>⟨hk.1,by have:=hk.2.1;omega,hk.2.2⟩,h.apart,h.bel.trans (hb.mono (by omega)),by omega⟩
theorem RC.step3 {pb B g' cap:Nat} {w2 w3 w5:World} {v2 v3:Value} {ps:List EP} {cs:List ByteArray} {s:ByteArray} (h:RC pb w2 B v2 v3 ps cs w3)(hg5:w3.grownBy w5 v3.ownBlock)
 (dP:w5.ownsRow B 9 1 (.slice (some ⟨g',0,none⟩) (cs.length+1) cap) (cs.length+1) (strs cs++[.string s]))
 (hat:(Value.slice (some ⟨g',0,none⟩) (cs.length+1) cap).ownBlock=v3.ownBlock∨∃ n,(Value.slice (some ⟨g',0,none⟩) (cs.length+1) cap).ownBlock=some n∧w3.heap.size≤n)
 (hp:pb<B):RC pb w2 B v2 (.slice (some ⟨g',0,none⟩) (cs.length+1) cap) ps (cs++[s]) (w5.setCell ⟨pb,3,none⟩ (.slice (some ⟨g',0,none⟩) (cs.length+1) cap)):=by
 have hs:=h.size
 have hs5:=hg5.size
 have h3:∀ k,v3.ownBlock=some k→B≤k∧k<w3.heap.size:=fun k e=>h.pI.lt k e
 have h2:∀ k,v2.ownBlock=some k→B≤k∧k<w3.heap.size:=fun k e=>h.qY.lt k e
 have hne:g'≠pb:=fun e=>by
  rcases hat with h | ⟨n,h,hn⟩
  ·have:=h3 g' (by rw [←h];rfl);omega
  ·have:n=g':=by simpa [Value.ownBlock] using h.symm
   omega
 have hoth:∀ k,k≠pb→k<w3.heap.size→v3.ownBlock≠some k→(w5.setCell ⟨pb,3,none⟩ (.slice (some ⟨g',0,none⟩) (cs.length+1) cap)).heap[k]?=w3.heap[k]?:=fun k a1 a2 a3 =>
  (ann w5 ⟨pb,3,none⟩ _ k a1).trans (hg5.block k a2 fun e=>a3 e.symm)
 have hz:(w5.setCell ⟨pb,3,none⟩ (.slice (some ⟨g',0,none⟩) (cs.length+1) cap)).heap.size=w5.heap.size:=by simp [World.setCell]
 have hv:∀ k,k<w3.heap.size→v3.ownBlock≠some k→(Value.slice (some ⟨g',0,none⟩) (cs.length+1) cap).ownBlock≠some k:=fun k a1 a2=>by
  rcases hat with h | ⟨n,h,hn⟩
  ·rw [h];exact a2
  ·rw [h];intro e;have:=Option.some.inj e;omega
 refine ⟨fQ (k:=3) ((hg5.block pb (by omega) fun e=>by have:=(h3 pb e.symm).1;omega).trans h.box),?_,?_,?_,?_,?_,by omega⟩
 ·rw [List.length_append,List.length_singleton,Ad]
  exact kN dP (ann w5 ⟨pb,3,none⟩ _ g' hne)
 ·exact rW h.qY fun k e=>hoth k (by have:=(h2 k e).1;omega) (h2 k e).2 (h.apart k e)
 ·intro p hp'
  exact ((h.kids p hp').kept fun k hk=>hoth k (by have:=hk.1;omega) hk.2.1 hk.2.2.2).mono fun k hk=>⟨hk.1,by have:=hk.2.1;omega,hk.2.2.1,hv k hk.2.1 hk.2.2.2⟩
 ·exact fun k e=>hv k (h2 k e).2 (h.apart k e)
 ·exact (h.bel.grown hg5 (by omega) (fun k e=>by have:=(h3 k e).1;omega)).setCell (p:=⟨pb,3,none⟩) (ank _) _
theorem RC.step2 {pb B g' cap sz sz2:Nat} {w2 w3 w5:World} {v2 v3:Value} {ps:List EP} {cs:List ByteArray} {x:EP} (h:RC pb w2 B v2 v3 ps cs w3)(hg5:w3.grownBy w5 v2.ownBlock)
 (dP:w5.ownsRow B 38 4 (.slice (some ⟨g',0,none⟩) (ps.length+1) cap) (ps.length+1) (iZ ps++EP.cs x))
 (hat:(Value.slice (some ⟨g',0,none⟩) (ps.length+1) cap).ownBlock=v2.ownBlock∨∃ n,(Value.slice (some ⟨g',0,none⟩) (ps.length+1) cap).ownBlock=some n∧w3.heap.size≤n)
 (hx:gy w3 (fun k=>sz≤k∧k<sz2) x.2.1 x.1.kids)(hsz2:sz2≤w3.heap.size)(hsz:B≤sz)(hz2:∀ k,v2.ownBlock=some k→k<sz)(hz3:∀ k,v3.ownBlock=some k→k<sz∨sz2≤k)
 (hp:pb<B):RC pb w2 B (.slice (some ⟨g',0,none⟩) (ps.length+1) cap) v3 (ps++[x]) cs (w5.setCell ⟨pb,2,none⟩ (.slice (some ⟨g',0,none⟩) (ps.length+1) cap)):=by
 have hs:=h.size
 have hs5:=hg5.size
 have h3:∀ k,v3.ownBlock=some k→B≤k∧k<w3.heap.size:=fun k e=>h.pI.lt k e
 have h2:∀ k,v2.ownBlock=some k→B≤k∧k<w3.heap.size:=fun k e=>h.qY.lt k e
 have hne:g'≠pb:=fun e=>by
  rcases hat with h | ⟨n,h,hn⟩
  ·have:=h2 g' (by rw [←h];rfl);omega
  ·have:n=g':=by simpa [Value.ownBlock] using h.symm
   omega
 have hoth:∀ k,k≠pb→k<w3.heap.size→v2.ownBlock≠some k→(w5.setCell ⟨pb,2,none⟩ (.slice (some ⟨g',0,none⟩) (ps.length+1) cap)).heap[k]?=w3.heap[k]?:=fun k a1 a2 a3 =>
  (ann w5 ⟨pb,2,none⟩ _ k a1).trans (hg5.block k a2 fun e=>a3 e.symm)
 have hz:(w5.setCell ⟨pb,2,none⟩ (.slice (some ⟨g',0,none⟩) (ps.length+1) cap)).heap.size=w5.heap.size:=by simp [World.setCell]
 have hv:∀ k,k<w3.heap.size→v2.ownBlock≠some k→(Value.slice (some ⟨g',0,none⟩) (ps.length+1) cap).ownBlock≠some k:=fun k a1 a2=>by
  rcases hat with h | ⟨n,h,hn⟩
  ·rw [h];exact a2
  ·rw [h];intro e;have:=Option.some.inj e;omega
 refine ⟨fQ (k:=2) ((hg5.block pb (by omega) fun e=>by have:=(h2 pb e.symm).1;omega).trans h.box),?_,?_,?_,?_,?_,by omega⟩
 ·exact rW h.pI fun k e=>hoth k (by have:=(h3 k e).1;omega) (h3 k e).2 (fun e2=>h.apart k e2 e)
 ·rw [List.length_append,List.length_singleton,mf,kY]
  exact kN dP (ann w5 ⟨pb,2,none⟩ _ g' hne)
 ·intro p hp'
  rcases List.mem_append.1 hp' with hp' | hp'
  ·exact ((h.kids p hp').kept fun k hk=>hoth k (by have:=hk.1;omega) hk.2.1 hk.2.2.1).mono fun k hk=>⟨hk.1,by have:=hk.2.1;omega,hv k hk.2.1 hk.2.2.1,hk.2.2.2⟩
  ·obtain rfl:p=x:=by simpa using hp'
   have a2:∀ k,sz≤k→v2.ownBlock≠some k:=fun k hk e=>by have:=hz2 k e;omega
   have a3:∀ k,sz≤k→k<sz2→v3.ownBlock≠some k:=fun k hk hk2 e=>by have:=hz3 k e;omega
   exact (hx.kept fun k hk=>hoth k (by have:=hk.1;omega) (by have:=hk.2;omega) (a2 k hk.1)).mono fun k hk=>⟨by have:=hk.1;omega,by have:=hk.2;omega,hv k (by have:=hk.2;omega) (a2 k hk.1),a3 k hk.1 hk.2⟩
 ·intro k e e3
  exact hv k (h3 k e3).2 (fun e2=>h.apart k e2 e3) e
 ·exact (h.bel.grown hg5 (by omega) (fun k e=>by have:=(h2 k e).1;omega)).setCell (p:=⟨pb,2,none⟩) (ank _) _
structure RG (pb:Nat)(w2:World)(B:Nat)(lv v:Value)(gs:List Ag)(wr:World):Prop where
 box:wr.heap[pb]?=some (.cells #[.int .i64 7,.string ⟨#[]⟩,.slice none 0 0,.slice none 0 0,lv,.slice none 0 0,v,.slice none 0 0] 27 (0,0))
 own:wr.ownsRow B 46 3 v gs.length (fB gs)
 bel:Below pb w2 wr
 size:B≤wr.heap.size
theorem RG.aas {pb B:Nat} {w2 wr w':World} {lv v:Value} {gs:List Ag} (h:RG pb w2 B lv v gs wr)(hb:Below wr.heap.size wr w')(hp:pb<B):RG pb w2 B lv v gs w':=by
 have hs:=h.size
 have hs':=hb.size
 exact ⟨(hb.block pb (by omega)).trans h.box,own_below h.own hb,h.bel.trans (hb.mono (by omega)),by omega⟩
theorem RG.step {pb B g' cap:Nat} {w2 w3 w5:World} {lv v:Value} {gs:List Ag} {x:Ag} (h:RG pb w2 B lv v gs w3)(hg5:w3.grownBy w5 v.ownBlock)
 (dP:w5.ownsRow B 46 3 (.slice (some ⟨g',0,none⟩) (gs.length+1) cap) (gs.length+1) (fB gs++Ag.cs x))
 (hat:(Value.slice (some ⟨g',0,none⟩) (gs.length+1) cap).ownBlock=v.ownBlock∨∃ n,(Value.slice (some ⟨g',0,none⟩) (gs.length+1) cap).ownBlock=some n∧w3.heap.size≤n)
 (hp:pb<B):RG pb w2 B lv (.slice (some ⟨g',0,none⟩) (gs.length+1) cap) (gs++[x]) (w5.setCell ⟨pb,6,none⟩ (.slice (some ⟨g',0,none⟩) (gs.length+1) cap)):=by
 have hs:=h.size
 have hs5:=hg5.size
 have h2:∀ k,v.ownBlock=some k→B≤k∧k<w3.heap.size:=fun k e=>h.own.lt k e
 have hne:g'≠pb:=fun e=>by
  rcases hat with h | ⟨n,h,hn⟩
  ·have:=h2 g' (by rw [←h];rfl);omega
  ·have:n=g':=by simpa [Value.ownBlock] using h.symm
   omega
 have hz:(w5.setCell ⟨pb,6,none⟩ (.slice (some ⟨g',0,none⟩) (gs.length+1) cap)).heap.size=w5.heap.size:=by simp [World.setCell]
 refine ⟨fQ (k:=6) ((hg5.block pb (by omega) fun e=>by have:=(h2 pb e.symm).1;omega).trans h.box),?_,?_,by omega⟩
 ·rw [List.length_append,List.length_singleton,wW,yP]
  exact kN dP (ann w5 ⟨pb,6,none⟩ _ g' hne)
 ·exact (h.bel.grown hg5 (by omega) (fun k e=>by have:=(h2 k e).1;omega)).setCell (p:=⟨pb,6,none⟩) (ank _) _
def wu (kd:Int)(l:List T):Prop:=(kd=1∧nameB (l.getD 1 aH).s=true)∨(kd=7∧(∀ e∈(l.getD 1 aH).kids,nameB e.s=true)∧∀ e∈bT l 2,GU e.kids)
theorem oh {kd:Int} {l:List T} (h1:kd≠1)(h7:kd≠7):¬wu kd l:=fun h=>by
 rcases h with ⟨h,_⟩ | ⟨h,_⟩
 ·exact h1 h
 ·exact h7 h
inductive pV:T→Prop
 | mk (t:T)(hk:fA t≠0)(hb:wu (fA t) t.kids)(h:∀ x∈t.kids.drop (t.kids.length-aJ (fA t)),pV x):pV t
theorem pV.kind {t:T} (h:pV t):fA t≠0:=by cases h with | mk _ hk hb h=>exact hk
theorem pV.base {t:T} (h:pV t):wu (fA t) t.kids:=by cases h with | mk _ hk hb h=>exact hb
theorem pV.sub {t:T} (h:pV t):∀ x∈t.kids.drop (t.kids.length-aJ (fA t)),pV x:=by cases h with | mk _ hk hb h=>exact h
def sW (w:World)(t:T)(e:Ending)(w':World):Prop:=(∃ (a:PA)(p:P)(why at_:Int),e=.returned (.tuple #[p.val a,.int .i64 why,.int .i64 at_])∧jS w' (fun k=>w.heap.size≤k∧k<w'.heap.size) p a ∧
 ((why=0∧aX t (0,0)=(p,0,0))∨(why≠0∧p=bW∧¬pV t)))∧Below w.heap.size w w'
def Nw (t:T):Prop:=t.Good→∀ (A:Option Addr)(c:Nat)(w:World),t.kids.length≤c→bz w w.heap.size A t.kids→Calls Tryz.prog 40 #[t.val A c] w (sW w t)
def agt (pb:Nat)(w2:World)(kd:Int)(l:List T)(a:Int)(s7 s8 s9:Value)(wx:World):Prop :=
 ∃ (y z:Int)(A9:Option Addr)(n9 c9:Nat),s7=.int .i64 y∧s8=.int .i64 z∧s9=.slice A9 n9 c9∧Below pb w2 wx∧pb<wx.heap.size ∧
   (y=0→∃ a0:PA,n9=aJ kd∧aJ kd≤l.length∧bz w2 pb A9 (l.drop (l.length-aJ kd)) ∧
     wx.heap[pb]?=some (.cells #[.int .i64 (aT kd l).k,.string (aT kd l).nm,.slice a0.ea (aT kd l).ex.length a0.ec,.slice a0.ca (aT kd l).cols.length a0.cc,.slice a0.la (aT kd l).left.length a0.lc,.slice a0.ra (aT kd l).right.length a0.rc,.slice a0.ga (aT kd l).ag.length a0.gc,.slice none 0 0] 27 (0,0)) ∧
     lq wx (fun k=>pb<k∧k<wx.heap.size) (aT kd l) a0∧dM kd l a (0,0)=(0,0))∧(y≠0→¬wu kd l)
def ady (pb:Nat)(w2 wc:World)(a0:PA)(p0:P)(ks:List T)(s7 s8 i:Value)(wr:World):Prop :=
 ∃ (j:Nat)(ps:List QP)(v:Value)(y z:Int),j≤ks.length∧i=.int .i64 j∧s7=.int .i64 y∧s8=.int .i64 z∧ps.length=j ∧
   wr.heap[pb]?=some (.cells #[.int .i64 p0.k,.string p0.nm,.slice a0.ea p0.ex.length a0.ec,.slice a0.ca p0.cols.length a0.cc,.slice a0.la p0.left.length a0.lc,.slice a0.ra p0.right.length a0.rc,.slice a0.ga p0.ag.length a0.gc,v] 27 (0,0)) ∧
   wr.ownsRow wc.heap.size 27 8 v j (kM ps)∧(∀ p∈ps,jS wr (fun k=>wc.heap.size≤k∧k<wr.heap.size∧v.ownBlock≠some k) p.1 p.2) ∧
   Below pb w2 wr∧(∀ k,pb<k→k<wc.heap.size→wr.heap[k]?=wc.heap[k]?)∧wc.heap.size≤wr.heap.size ∧
   (y=0→(ks.take j).map (fun t=>aX t (0,0))=ps.map fun p=>(p.1,((0:Int),(0:Int))))∧(y≠0→∃ x∈ks,¬pV x)
theorem QT {pb:Nat} {w2 wc wr wx w3 w4 w5:World} {a0 aq:PA} {p0 q:P} {ks:List T} {j g' cap:Nat} {x:T} {ps:List QP} {v:Value} {y z:Int}
 (hx:ks[j]?=some x)(hpl:ps.length=j)(Ji:pb<wc.heap.size)
 (hown:wr.ownsRow wc.heap.size 27 8 v j (kM ps))(hxk:∀ p∈ps,jS wr (fun k=>wc.heap.size≤k∧k<wr.heap.size∧v.ownBlock≠some k) p.1 p.2)
 (ho:Below pb w2 wr)(hold:∀ k,pb<k→k<wc.heap.size→wr.heap[k]?=wc.heap[k]?)(Be:wc.heap.size≤wr.heap.size)
 (hz:(ks.take j).map (fun t=>aX t (0,0))=ps.map fun p=>(p.1,((0:Int),(0:Int))))
 (hst:(y=0∧aX x (0,0)=(q,0,0))∨(y≠0∧q=bW∧¬pV x))
 (hbx:Below wr.heap.size wr wx)(hsx:wr.heap.size<wx.heap.size)(hb3:Below wx.heap.size wx w3)(hX:jS w3 (fun k=>wx.heap.size≤k∧k<w3.heap.size) q aq)
 (h4:∀ k,k<w3.heap.size→k≠wr.heap.size→w4.heap[k]?=w3.heap[k]?)(hs4:w3.heap.size≤w4.heap.size)(sD:Below wr.heap.size w3 w4)
 (hg5:w4.grownBy w5 v.ownBlock)(dP:w5.ownsRow wc.heap.size 27 8 (.slice (some ⟨g',0,none⟩) (j+1) cap) (j+1) (kM ps++QP.cs (q,aq)))
 (hat:v.ownBlock=some g'∨w4.heap.size≤g')
 (he5:w5.heap[pb]?=some (.cells #[.int .i64 p0.k,.string p0.nm,.slice a0.ea p0.ex.length a0.ec,.slice a0.ca p0.cols.length a0.cc,.slice a0.la p0.left.length a0.lc,.slice a0.ra p0.right.length a0.rc,.slice a0.ga p0.ag.length a0.gc,v] 27 (0,0))) :
 ady pb w2 wc a0 p0 ks (.int .i64 y) (.int .i64 z) (.int .i64 ((j:Int)+1)) (w5.setCell ⟨pb,7,none⟩ (.slice (some ⟨g',0,none⟩) (j+1) cap)):=by
 have hj:j<ks.length:=(List.getElem?_eq_some_iff.1 hx).1
 have s1:=hbx.size
 have s2:=hb3.size
 have s5:=hg5.size
 have hv1:∀ k,v.ownBlock=some k→wc.heap.size≤k∧k<wr.heap.size:=fun k e=>hown.lt k e
 have hX':jS w4 (fun k=>wr.heap.size≤k∧k<w4.heap.size) q aq:=(hX.kept fun k hk=>h4 k hk.2 (by have:=hk.1;omega)).mono fun k hk=>⟨by have:=hk.1;omega,by have:=hk.2;omega⟩
 have hne:g'≠pb:=fun e=>by
  rcases hat with h | h
  ·have:=hv1 g' h;omega
  ·omega
 have hoth:∀ k,k≠pb→k<wr.heap.size→v.ownBlock≠some k→(w5.setCell ⟨pb,7,none⟩ (.slice (some ⟨g',0,none⟩) (j+1) cap)).heap[k]?=wr.heap[k]?:=fun k h1 h3 h5 =>
  (ann w5 ⟨pb,7,none⟩ _ k h1).trans ((hg5.block k (by omega) fun e=>h5 e.symm).trans ((h4 k (by omega) (by omega)).trans ((hb3.block k (by omega)).trans (hbx.block k h3))))
 have TF:∀ k,wr.heap.size≤k→k<w4.heap.size→(w5.setCell ⟨pb,7,none⟩ (.slice (some ⟨g',0,none⟩) (j+1) cap)).heap[k]?=w4.heap[k]?:=fun k h1 h2 =>
  (ann w5 ⟨pb,7,none⟩ _ k (by show k≠pb;omega)).trans (hg5.block k h2 fun e=>by have:=(hv1 k e.symm).2;omega)
 have h6:(w5.setCell ⟨pb,7,none⟩ (.slice (some ⟨g',0,none⟩) (j+1) cap)).heap.size=w5.heap.size:=by simp [World.setCell]
 refine ⟨j+1,ps++[(q,aq)],.slice (some ⟨g',0,none⟩) (j+1) cap,y,z,hj,by simp,rfl,rfl,by rw [List.length_append,hpl];rfl,fQ (k:=7) he5,?_,?_,?_,?_,by omega,?_,fun hy=>⟨x,anq hx,by rcases hst with ⟨h,_⟩ | ⟨_,_,h⟩;exact absurd h hy;exact h⟩⟩
 ·rw [wX,yR]
  exact kN dP (ann w5 ⟨pb,7,none⟩ _ g' hne)
 ·refine IG hxk hX' Be (fun k h1 h2 h3=>hoth k (by omega) h2 h3) (fun k h1 h2=>TF k h1 h2) (by omega) (by rw [h6];exact s5) (fun k e=>(hv1 k e).2) ?_
  rcases hat with h | h
  ·exact .inl h.symm
  ·exact .inr ⟨g',rfl,h⟩
 ·exact ((((ho.trans (hbx.mono (by omega))).trans (hb3.mono (by omega))).trans (sD.mono (by omega))).grown hg5 (by omega) (fun k e=>by have:=(hv1 k e).1;omega)).setCell (p:=⟨pb,7,none⟩) (ank _) _
 ·intro k h1 h2
  exact (hoth k (by omega) (by omega) (fun e=>by have:=(hv1 k e).1;omega)).trans (hold k h1 h2)
 ·intro h0
  rcases hst with ⟨_,h⟩ | ⟨h,_⟩
  ·rw [iD (fun t=>aX t (0,0)) hx,hz,h,List.map_append]
   rfl
  ·exact absurd h0 h
theorem Dy:∀ (l:List T)(ps:List QP),l.map (fun t=>aX t (0,0))=ps.map (fun p=>(p.1,((0:Int),(0:Int))))→bM l 0 (0,0)=(ps.map Prod.fst,0,0)
 | [],ps,h=>by
   cases ps with
   | nil=>rw [bM];rfl
   | cons p ps=>simp at h
 | x::l,ps,h=>by
   cases ps with
   | nil=>simp at h
   | cons p ps =>
     rw [List.map_cons,List.map_cons] at h
     injection h with h1 h2
     rw [bM,h1,Dy l ps h2]
     rfl
theorem UQ {k n a:Int} {s:ByteArray} {l:List T} {kd:Int} {ps:List QP} (hkd:fA (.mk k s n l a)=kd)(hb:dM kd l a (0,0)=(0,0)) {j:Nat} (hj:¬j<(l.drop (l.length-aJ kd)).length)
 (hz:((l.drop (l.length-aJ kd)).take j).map (fun t=>aX t (0,0))=ps.map fun p=>(p.1,((0:Int),(0:Int)))):aX (.mk k s n l a) (0,0)=((aT kd l).put (ps.map Prod.fst),0,0):=by
 rw [List.take_of_length_le (by omega)] at hz
 rw [aX,hkd,jg,hb,Dy _ _ hz]
theorem eX {fn:Func} {p q r:Tmp} (h:fn.results=#[.cell p 27,.tmp q,.tmp r]) {tmps:Array Value} {w:World} {g:Nat} {x0 x1 x2 x3 x4 x5 x6 x7 u v:Value} {t:TypeId}
 (hp:tmps.getD p undef=.pointer (some ⟨g,0,none⟩))(hq:tmps.getD q undef=u)(hr:tmps.getD r undef=v)(hg:w.heap[g]?=some (.cells #[x0,x1,x2,x3,x4,x5,x6,x7] t (0,0))):(results fn tmps).run Tryz.prog w=.ok (.tuple #[.agg #[x0,x1,x2,x3,x4,x5,x6,x7],u,v]) w:=by
 have hp':tmps[p]?.getD undef=.pointer (some ⟨g,0,none⟩):=by simpa using hp
 have hq':tmps[q]?.getD undef=u:=by simpa using hq
 have hr':tmps[r]?.getD undef=v:=by simpa using hr
 have hl:=run_loadVar_row (P:=Tryz.prog) w g t 27 #[x0,x1,x2,x3,x4,x5,x6,x7] (0,0) _ hg Tryz.underlying27 rfl (by show _=some 8;kernel_rfl)
 simp [results,h,hp',hq',hr',asAddr,hl]
theorem FZ (w:World)(S:Nat→Prop):jS w S bW oG:=⟨iV _ _ _ _,.nil _⟩
theorem pW {w w':World} {t:T} {e:Ending} {why at_:Int} (hna:¬pV t)(hw:why≠0)(he:e=.returned (.tuple #[.agg #[.int .i64 0,.string ⟨#[]⟩,.slice none 0 0,.slice none 0 0,.slice none 0 0,.slice none 0 0,.slice none 0 0,.slice none 0 0],.int .i64 why,.int .i64 at_]))(hb:Below w.heap.size w w'):sW w t e w' :=
 ⟨⟨oG,bW,why,at_,he,FZ _ _,.inr ⟨hw,rfl,hna⟩⟩,hb⟩
end Go.Proofs.YtjhkihkiebnpaaaGreatDoor
