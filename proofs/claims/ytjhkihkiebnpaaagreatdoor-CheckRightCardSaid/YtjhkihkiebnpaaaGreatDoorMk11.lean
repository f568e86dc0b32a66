/-
  Package sexp's reader: what begins at a place.
-/
import Derived.Test.YtjhkihkiebnpaaaGreatDoorMk10
import Derived.Laws.BytesArg
import Derived.Test.YtjhkihkiebnpaaaGreatDoorMk1
import Derived.Test.YtjhkihkiebnpaaaGreatDoorRows
import Derived.OrdersHeld
import Derived.Deep.RegionHeld
import Derived.KernelRfl
import Derived.Test.YtjhkihkiebnpaaaGreatDoorMk0
import Derived.Test.YtjhkihkiebnpaaaGreatDoorMk4
import Derived.Test.YtjhkihkiebnpaaaGreatDoorMk9
import Derived.Test.YtjhkihkiebnpaaaGreatDoorMk3
import Derived.Test.YtjhkihkiebnpaaaGreatDoorMk6
import Derived.Deep.RegionLaw
import Derived.Deep.DeepCutAuto
import Derived.Deep.RegionHeld3
set_option linter.unusedVariables false
set_option linter.unusedSimpArgs false
set_option maxRecDepth 100000
set_option maxHeartbeats 40000000
namespace Go.Proofs.YtjhkihkiebnpaaaGreatDoor
open Go.RowKit
theorem dJ {fn:Func} {p q r u:Tmp} (h:fn.results=#[.cell p 71,.tmp q,.tmp r,.tmp u]) {tmps:Array Value} {w:World} {g:Nat} {x0 x1 x2 x3 x4 a b c:Value} {t:TypeId}
 (hp:tmps.getD p undef=.pointer (some ⟨g,0,none⟩))(hq:tmps.getD q undef=a)(hr:tmps.getD r undef=b)(hu:tmps.getD u undef=c)(hg:w.heap[g]?=some (.cells #[x0,x1,x2,x3,x4] t (0,0))):(results fn tmps).run Tryz.prog w=.ok (.tuple #[.agg #[x0,x1,x2,x3,x4],a,b,c]) w:=by
 have hp':tmps[p]?.getD undef=.pointer (some ⟨g,0,none⟩):=by simpa using hp
 have hq':tmps[q]?.getD undef=a:=by simpa using hq
 have hr':tmps[r]?.getD undef=b:=by simpa using hr
 have hu':tmps[u]?.getD undef=c:=by simpa using hu
 have hl:=run_loadVar_row (P:=Tryz.prog) w g t 71 #[x0,x1,x2,x3,x4] (0,0) _ hg Tryz.underlying71 rfl (by show _=some 5;kernel_rfl)
 simp [results,h,hp',hq',hr',hu',asAddr,hl]
def YG (r:T×Int×Int×Int)(e:Ending):Prop:=e=.returned (.tuple #[.agg #[.int .i64 r.1.k,.string r.1.s,.int .i64 r.1.n,.slice none 0 0,.int .i64 r.1.at_],.int .i64 r.2.1,.int .i64 r.2.2.1,.int .i64 r.2.2.2])∧r.1.kids=[]
theorem Uz {w:World} {base:Nat} {A:Option Addr} {c:Nat} {L:List UInt8} (h:w.ownsRow base 5 1 (.slice A L.length c) L.length (BF L)) :
 (Go.convert 151 9 (.slice A L.length c)).run Tryz.prog w=.ok (.string ⟨L.toArray⟩) w:=by
 rcases h.2 with ⟨e,h0⟩ | ⟨g,cap,cur,e,_⟩
 ·have e0:L=[]:=List.eq_nil_of_length_eq_zero h0
  subst e0
  injection e with e1
  subst e1
  rw [run_convert_bytes_nil (P:=Tryz.prog) w 151 5 Tryz.underlying151 Tryz.underlying5 _ _ 9 Tryz.underlying9]
  rfl
 ·injection e with e1
  subst e1
  exact run_convert_bytes_back (P:=Tryz.prog) w 151 9 5 ⟨g,0,none⟩ c L Tryz.underlying151 Tryz.underlying5 Tryz.underlying9 (fun q hq=>h.cells rfl q _ (by simp [BF,KW,hq]))
theorem one_any (hP:uD)(hH:yt)(s:ByteArray)(i:Nat)(hi:i<s.size)(hs:s.size≤600)(g dn dc:Nat)(dA:Option Addr)(vo:Value)(w:World)(hE:Errs w)(hg:w.heap[g]?=some (.cells #[.string s,vo,.slice dA dn dc] 102 (0,0))) :
 Calls Tryz.prog 53 #[.pointer (some ⟨g,0,none⟩),.int .i64 (i:Int)] w fun e w'=>YG (dO s i (decide (0<dn))) e∧Below w.heap.size w w':=by
 have hgl:g<w.heap.size:=(Array.getElem?_eq_some_iff.1 hg).1
 have ny:=anc (oZ hi)
 have g0:w.cell? ⟨g,0,none⟩=some (.string s):=by simp [World.cell?,hg]
 obtain ⟨w1,aK⟩:∃ w1,w1=w.alloc (.cells #[.int .i64 0,.string ⟨#[]⟩,.int .i64 0,.slice none 0 0,.int .i64 0] 71):=⟨_,rfl⟩
 have hb1:Below w.heap.size w w1:=by rw [aK];exact (anl _ _).alloc (ank _) _
 have hs1:w1.heap.size=w.heap.size+1:=by rw [aK];simp
 have hx1:w1.heap[w.heap.size]?=some (.cells #[.int .i64 0,.string ⟨#[]⟩,.int .i64 0,.slice none 0 0,.int .i64 0] 71 (0,0)):=by rw [aK];exact anm w _
 have hg1:w1.heap[g]?=some (.cells #[.string s,vo,.slice dA dn dc] 102 (0,0)):=(hb1.block g hgl).trans hg
 have g1:w1.cell? ⟨g,0,none⟩=some (.string s):=by simp [World.cell?,hg1]
 have HW1:=anc aK
 have gU:=anc hx1
 have HB1:=anc hb1
 clear aK hx1 hb1
 go_enter Tryz.func53,Tryz.ntmps53
 go_upto_region 1 with (fail)
 rw [←HW1.out]
 go_upto_region 5 with (fail)
 obtain ⟨w2,uT⟩:∃ w2,w2=w1.alloc (.cells #[.int .i64 0,.string ⟨#[]⟩,.int .i64 0,.slice none 0 0,.int .i64 (i:Int)] 71):=⟨_,rfl⟩
 have hb2:Below w1.heap.size w1 w2:=by rw [uT];exact (anl _ _).alloc (ank _) _
 have hs2:w2.heap.size=w.heap.size+1+1:=by rw [uT];simp;omega
 have ht2:w2.heap[w.heap.size+1]?=some (.cells #[.int .i64 0,.string ⟨#[]⟩,.int .i64 0,.slice none 0 0,.int .i64 (i:Int)] 71 (0,0)):=by rw [uT,←hs1];exact anm w1 _
 have hx2:w2.heap[w.heap.size]?=some (.cells #[.int .i64 0,.string ⟨#[]⟩,.int .i64 0,.slice none 0 0,.int .i64 0] 71 (0,0)):=(hb2.block _ (by omega)).trans gU.out
 have hg2:w2.heap[g]?=some (.cells #[.string s,vo,.slice dA dn dc] 102 (0,0)):=(hb2.block _ (by omega)).trans hg1
 have hbw:Below w.heap.size w w2:=HB1.out.trans (hb2.mono (by omega))
 have hE2:=hE.below hbw
 have HE:=anc hE
 clear hE
 have dG:=anc hx2
 have HT2:=anc ht2
 have HB2:=anc hbw
 have hW:=anc (FY hg2)
 have hL:=anc (Dn s[i] w2)
 have hD:=anc (FX s[i] w2)
 have hR:=anc (JI s i (by omega) hs w2)
 rw [←uT]
 clear uT hb2 ht2 hx2 hg2 hbw hE2 gU HB1 hg1 g1 hg g0 hgl HW1
 cases hwh:decide (0<dn)
 ·rw [hwh] at hW
  cases hl:jT s[i]
  ·rw [hl] at hL
   cases hd:jr s[i]
   ·rw [hd] at hD
    cases h45:((s[i].toNat:Int)==45)
    ·have p45:Hid (¬(s[i].toNat:Int)=45):=anc (by simpa using h45)
     cases qR:((s[i].toNat:Int)==34)
     ·have p34:Hid (¬(s[i].toNat:Int)=34):=anc (by simpa using qR)
      have HQ:Hid (dO s i false=(.mk 0 ⟨#[]⟩ 0 [] i,(i:Int)+1,12,(i:Int))):=anc (by
       unfold dO
       rw [ny.out]
       simp [hl,hd,p45.out,p34.out])
      clear ny
      go_wp2_with fail
      refine (hW.out).mono ?_
      rintro e w' ⟨rfl,rfl⟩
      go_wp2_with fail
      refine (hL.out).mono ?_
      rintro e w' ⟨rfl,rfl⟩
      go_wp2_with fail
      refine (hD.out).mono ?_
      rintro e w' ⟨rfl,rfl⟩
      obtain ⟨⟨k0,k1,k2,k3,k4⟩,f0,f1,f2,f3,f4⟩:=ay HT2.out
      obtain ⟨⟨l0,l1,l2,l3,l4⟩,q0,q1,q2,q3,q4⟩:=ay dG.out
      go_wp2_with fail
      (try simp only [Exit.inBlock,Exit.then])
      refine ano (dJ rfl rfl rfl rfl rfl (aB dG.out)) rfl ?_
      exact ⟨by rw [hwh,HQ.out];exact ⟨rfl,rfl⟩,aC HB2.out (ank _)⟩
     ·have p34:Hid ((s[i].toNat:Int)=34):=anc (by simpa using qR)
      obtain ⟨w3,lI⟩:∃ w3,w3=w2.setCell ⟨w.heap.size+1,0,none⟩ (.int .i64 4):=⟨_,rfl⟩
      have HT3:Hid (w3.heap[w.heap.size+1]?=some (.cells #[.int .i64 4,.string ⟨#[]⟩,.int .i64 0,.slice none 0 0,.int .i64 (i:Int)] 71 (0,0))):=anc (by rw [lI];exact kV (k:=0) HT2.out)
      have mP:Hid (w3.heap[w.heap.size]?=some (.cells #[.int .i64 0,.string ⟨#[]⟩,.int .i64 0,.slice none 0 0,.int .i64 0] 71 (0,0))):=anc (by rw [lI];exact (ann _ ⟨w.heap.size+1,0,none⟩ _ w.heap.size (by simp)).trans dG.out)
      have HB3:Hid (Below w.heap.size w w3):=anc (by rw [lI];exact HB2.out.setCell (p:=⟨w.heap.size+1,0,none⟩) (by simp) _)
      have hs3:w3.heap.size=w.heap.size+1+1:=by rw [lI];simp [World.setCell];omega
      have HW3:=anc lI
      obtain ⟨⟨j0,j1,j2,j3,j4⟩,e0,e1,e2,e3,e4⟩:=ay HT2.out
      clear lI
      have hT:=anc (Uy hH s i hi hs w3)
      have HQ:Hid (dO s i false=(.mk 4 ⟨(textE s i).1.toArray⟩ 0 [] i,((textE s i).2.1:Int),(textE s i).2.2.1,(textE s i).2.2.2)):=anc (by
       unfold dO
       rw [ny.out]
       simp [hl,hd,p45.out,p34.out])
      clear ny
      generalize textE s i=r at *
      obtain ⟨L,en,why,pl⟩:=r
      go_wp2_with fail
      refine (hW.out).mono ?_
      rintro e w' ⟨rfl,rfl⟩
      go_wp2_with fail
      refine (hL.out).mono ?_
      rintro e w' ⟨rfl,rfl⟩
      go_wp2_with fail
      refine (hD.out).mono ?_
      rintro e w' ⟨rfl,rfl⟩
      go_upto_region 20 with (fail)
      rw [←HW3.out]
      go_wp2_with fail
      refine (hT.out).mono ?_
      rintro e w4 ⟨⟨A,c,he,hown⟩,hb4⟩
      subst he
      simp only at hown
      have hcv:=Uz hown
      have HT4:Hid (w4.heap[w.heap.size+1]?=some (.cells #[.int .i64 4,.string ⟨#[]⟩,.int .i64 0,.slice none 0 0,.int .i64 (i:Int)] 71 (0,0))):=anc ((hb4.block _ (by omega)).trans HT3.out)
      have qU:Hid (w4.heap[w.heap.size]?=some (.cells #[.int .i64 0,.string ⟨#[]⟩,.int .i64 0,.slice none 0 0,.int .i64 0] 71 (0,0))):=anc ((hb4.block _ (by omega)).trans mP.out)
      have fP:Hid (Below w.heap.size w w4):=anc (HB3.out.trans (hb4.mono (by omega)))
      obtain ⟨⟨a0,a1,a2,a3,a4⟩,b0,b1,b2,b3,b4⟩:=ay HT4.out
      clear hb4 hown
      go_upto_region 22 with (fail)
      obtain ⟨wz,qC⟩:∃ wz,wz=w4.setCell ⟨w.heap.size+1,1,none⟩ (.string ⟨L.toArray⟩):=⟨_,rfl⟩
      have HZ:Hid (wz.heap[w.heap.size+1]?=some (.cells #[.int .i64 4,.string ⟨L.toArray⟩,.int .i64 0,.slice none 0 0,.int .i64 (i:Int)] 71 (0,0))):=anc (by rw [qC];exact kV (k:=1) HT4.out)
      have JK:Hid (wz.heap[w.heap.size]?=some (.cells #[.int .i64 0,.string ⟨#[]⟩,.int .i64 0,.slice none 0 0,.int .i64 0] 71 (0,0))):=anc (by rw [qC];exact (ann _ ⟨w.heap.size+1,1,none⟩ _ w.heap.size (by simp)).trans qU.out)
      have Gt:Hid (Below w.heap.size w wz):=anc (by rw [qC];exact fP.out.setCell (p:=⟨w.heap.size+1,1,none⟩) (by simp) _)
      rw [←qC]
      clear qC
      obtain ⟨⟨k0,k1,k2,k3,k4⟩,f0,f1,f2,f3,f4⟩:=ay HZ.out
      obtain ⟨⟨l0,l1,l2,l3,l4⟩,q0,q1,q2,q3,q4⟩:=ay JK.out
      go_wp2_with fail
      (try simp only [Exit.inBlock,Exit.then])
      refine ano (dJ rfl rfl rfl rfl rfl (aB JK.out)) rfl ?_
      exact ⟨by rw [hwh,HQ.out];exact ⟨rfl,rfl⟩,aC Gt.out (ank _)⟩
    ·have p45:Hid ((s[i].toNat:Int)=45):=anc (by simpa using h45)
     obtain ⟨w3,lI⟩:∃ w3,w3=w2.setCell ⟨w.heap.size+1,0,none⟩ (.int .i64 3):=⟨_,rfl⟩
     have HT3:Hid (w3.heap[w.heap.size+1]?=some (.cells #[.int .i64 3,.string ⟨#[]⟩,.int .i64 0,.slice none 0 0,.int .i64 (i:Int)] 71 (0,0))):=anc (by rw [lI];exact kV (k:=0) HT2.out)
     have mP:Hid (w3.heap[w.heap.size]?=some (.cells #[.int .i64 0,.string ⟨#[]⟩,.int .i64 0,.slice none 0 0,.int .i64 0] 71 (0,0))):=anc (by rw [lI];exact (ann _ ⟨w.heap.size+1,0,none⟩ _ w.heap.size (by simp)).trans dG.out)
     have HB3:Hid (Below w.heap.size w w3):=anc (by rw [lI];exact HB2.out.setCell (p:=⟨w.heap.size+1,0,none⟩) (by simp) _)
     have hs3:w3.heap.size=w.heap.size+1+1:=by rw [lI];simp [World.setCell];omega
     have HW3:=anc lI
     obtain ⟨⟨j0,j1,j2,j3,j4⟩,e0,e1,e2,e3,e4⟩:=ay HT2.out
     clear lI
     have hN:=anc (Dq hP s i hi hs w3 (HE.out.below HB3.out))
     cases hq:gQ s i with
     | none =>
       have HQ:Hid (dO s i false=(.mk 3 ⟨#[]⟩ 0 [] i,-1,12,(i:Int))):=anc (by
        unfold dO
        rw [ny.out]
        simp [hl,hd,p45.out,hq])
       clear ny
       rw [hq] at hN
       clear hq
       go_wp2_with fail
       refine (hW.out).mono ?_
       rintro e w' ⟨rfl,rfl⟩
       go_wp2_with fail
       refine (hL.out).mono ?_
       rintro e w' ⟨rfl,rfl⟩
       go_wp2_with fail
       refine (hD.out).mono ?_
       rintro e w' ⟨rfl,rfl⟩
       go_upto_region 14 with (fail)
       rw [←HW3.out]
       go_wp2_with fail
       refine (hN.out).mono ?_
       rintro e w4 ⟨he,hb4⟩
       unfold JJ at he
       subst he
       have HB4:=anc hb4
       have HT4:Hid (w4.heap[w.heap.size+1]?=some (.cells #[.int .i64 3,.string ⟨#[]⟩,.int .i64 0,.slice none 0 0,.int .i64 (i:Int)] 71 (0,0))):=anc ((hb4.block _ (by omega)).trans HT3.out)
       have qU:Hid (w4.heap[w.heap.size]?=some (.cells #[.int .i64 0,.string ⟨#[]⟩,.int .i64 0,.slice none 0 0,.int .i64 0] 71 (0,0))):=anc ((hb4.block _ (by omega)).trans mP.out)
       have fP:Hid (Below w.heap.size w w4):=anc (HB3.out.trans (hb4.mono (by omega)))
       obtain ⟨⟨a0,a1,a2,a3,a4⟩,b0,b1,b2,b3,b4⟩:=ay HT4.out
       clear hb4
       go_upto_region 22 with (fail)
       obtain ⟨wz,qC⟩:∃ wz,wz=w4.setCell ⟨w.heap.size+1,2,none⟩ (.int .i64 0):=⟨_,rfl⟩
       have HZ:Hid (wz.heap[w.heap.size+1]?=some (.cells #[.int .i64 3,.string ⟨#[]⟩,.int .i64 0,.slice none 0 0,.int .i64 (i:Int)] 71 (0,0))):=anc (by rw [qC];exact kV (k:=2) HT4.out)
       have JK:Hid (wz.heap[w.heap.size]?=some (.cells #[.int .i64 0,.string ⟨#[]⟩,.int .i64 0,.slice none 0 0,.int .i64 0] 71 (0,0))):=anc (by rw [qC];exact (ann _ ⟨w.heap.size+1,2,none⟩ _ w.heap.size (by simp)).trans qU.out)
       have Gt:Hid (Below w.heap.size w wz):=anc (by rw [qC];exact fP.out.setCell (p:=⟨w.heap.size+1,2,none⟩) (by simp) _)
       rw [←qC]
       clear qC
       obtain ⟨⟨k0,k1,k2,k3,k4⟩,f0,f1,f2,f3,f4⟩:=ay HZ.out
       obtain ⟨⟨l0,l1,l2,l3,l4⟩,q0,q1,q2,q3,q4⟩:=ay JK.out
       go_wp2_with fail
       (try simp only [Exit.inBlock,Exit.then])
       refine ano (dJ rfl rfl rfl rfl rfl (aB JK.out)) rfl ?_
       exact ⟨by rw [hwh,HQ.out];exact ⟨rfl,rfl⟩,aC Gt.out (ank _)⟩
     | some ne =>
       obtain ⟨n,en⟩:=ne
       have HQ:Hid (dO s i false=(.mk 3 ⟨#[]⟩ n [] i,(en:Int),0,0)):=anc (by
        unfold dO
        rw [ny.out]
        simp [hl,hd,p45.out,hq])
       clear ny
       rw [hq] at hN
       clear hq
       have hneg:decide ((en:Int)<0)=false:=by simp
       go_wp2_with fail
       refine (hW.out).mono ?_
       rintro e w' ⟨rfl,rfl⟩
       go_wp2_with fail
       refine (hL.out).mono ?_
       rintro e w' ⟨rfl,rfl⟩
       go_wp2_with fail
       refine (hD.out).mono ?_
       rintro e w' ⟨rfl,rfl⟩
       go_upto_region 14 with (fail)
       rw [←HW3.out]
       go_wp2_with fail
       refine (hN.out).mono ?_
       rintro e w4 ⟨he,hb4⟩
       unfold JJ at he
       subst he
       have HB4:=anc hb4
       have HT4:Hid (w4.heap[w.heap.size+1]?=some (.cells #[.int .i64 3,.string ⟨#[]⟩,.int .i64 0,.slice none 0 0,.int .i64 (i:Int)] 71 (0,0))):=anc ((hb4.block _ (by omega)).trans HT3.out)
       have qU:Hid (w4.heap[w.heap.size]?=some (.cells #[.int .i64 0,.string ⟨#[]⟩,.int .i64 0,.slice none 0 0,.int .i64 0] 71 (0,0))):=anc ((hb4.block _ (by omega)).trans mP.out)
       have fP:Hid (Below w.heap.size w w4):=anc (HB3.out.trans (hb4.mono (by omega)))
       obtain ⟨⟨a0,a1,a2,a3,a4⟩,b0,b1,b2,b3,b4⟩:=ay HT4.out
       clear hb4
       go_upto_region 22 with (fail)
       obtain ⟨wz,qC⟩:∃ wz,wz=w4.setCell ⟨w.heap.size+1,2,none⟩ (.int .i64 n):=⟨_,rfl⟩
       have HZ:Hid (wz.heap[w.heap.size+1]?=some (.cells #[.int .i64 3,.string ⟨#[]⟩,.int .i64 n,.slice none 0 0,.int .i64 (i:Int)] 71 (0,0))):=anc (by rw [qC];exact kV (k:=2) HT4.out)
       have JK:Hid (wz.heap[w.heap.size]?=some (.cells #[.int .i64 0,.string ⟨#[]⟩,.int .i64 0,.slice none 0 0,.int .i64 0] 71 (0,0))):=anc (by rw [qC];exact (ann _ ⟨w.heap.size+1,2,none⟩ _ w.heap.size (by simp)).trans qU.out)
       have Gt:Hid (Below w.heap.size w wz):=anc (by rw [qC];exact fP.out.setCell (p:=⟨w.heap.size+1,2,none⟩) (by simp) _)
       rw [←qC]
       clear qC
       obtain ⟨⟨k0,k1,k2,k3,k4⟩,f0,f1,f2,f3,f4⟩:=ay HZ.out
       obtain ⟨⟨l0,l1,l2,l3,l4⟩,q0,q1,q2,q3,q4⟩:=ay JK.out
       go_wp2_with fail
       (try simp only [Exit.inBlock,Exit.then])
       refine ano (dJ rfl rfl rfl rfl rfl (aB JK.out)) rfl ?_
       exact ⟨by rw [hwh,HQ.out];exact ⟨rfl,rfl⟩,aC Gt.out (ank _)⟩
   ·rw [hd] at hD
    obtain ⟨w3,lI⟩:∃ w3,w3=w2.setCell ⟨w.heap.size+1,0,none⟩ (.int .i64 3):=⟨_,rfl⟩
    have HT3:Hid (w3.heap[w.heap.size+1]?=some (.cells #[.int .i64 3,.string ⟨#[]⟩,.int .i64 0,.slice none 0 0,.int .i64 (i:Int)] 71 (0,0))):=anc (by rw [lI];exact kV (k:=0) HT2.out)
    have mP:Hid (w3.heap[w.heap.size]?=some (.cells #[.int .i64 0,.string ⟨#[]⟩,.int .i64 0,.slice none 0 0,.int .i64 0] 71 (0,0))):=anc (by rw [lI];exact (ann _ ⟨w.heap.size+1,0,none⟩ _ w.heap.size (by simp)).trans dG.out)
    have HB3:Hid (Below w.heap.size w w3):=anc (by rw [lI];exact HB2.out.setCell (p:=⟨w.heap.size+1,0,none⟩) (by simp) _)
    have hs3:w3.heap.size=w.heap.size+1+1:=by rw [lI];simp [World.setCell];omega
    have HW3:=anc lI
    obtain ⟨⟨j0,j1,j2,j3,j4⟩,e0,e1,e2,e3,e4⟩:=ay HT2.out
    clear lI
    have hN:=anc (Dq hP s i hi hs w3 (HE.out.below HB3.out))
    cases hq:gQ s i with
    | none =>
      have HQ:Hid (dO s i false=(.mk 3 ⟨#[]⟩ 0 [] i,-1,12,(i:Int))):=anc (by
       unfold dO
       rw [ny.out]
       simp [hl,hd,hq])
      clear ny
      rw [hq] at hN
      clear hq
      go_wp2_with fail
      refine (hW.out).mono ?_
      rintro e w' ⟨rfl,rfl⟩
      go_wp2_with fail
      refine (hL.out).mono ?_
      rintro e w' ⟨rfl,rfl⟩
      go_wp2_with fail
      refine (hD.out).mono ?_
      rintro e w' ⟨rfl,rfl⟩
      go_upto_region 14 with (fail)
      rw [←HW3.out]
      go_wp2_with fail
      refine (hN.out).mono ?_
      rintro e w4 ⟨he,hb4⟩
      unfold JJ at he
      subst he
      have HB4:=anc hb4
      have HT4:Hid (w4.heap[w.heap.size+1]?=some (.cells #[.int .i64 3,.string ⟨#[]⟩,.int .i64 0,.slice none 0 0,.int .i64 (i:Int)] 71 (0,0))):=anc ((hb4.block _ (by omega)).trans HT3.out)
      have qU:Hid (w4.heap[w.heap.size]?=some (.cells #[.int .i64 0,.string ⟨#[]⟩,.int .i64 0,.slice none 0 0,.int .i64 0] 71 (0,0))):=anc ((hb4.block _ (by omega)).trans mP.out)
      have fP:Hid (Below w.heap.size w w4):=anc (HB3.out.trans (hb4.mono (by omega)))
      obtain ⟨⟨a0,a1,a2,a3,a4⟩,b0,b1,b2,b3,b4⟩:=ay HT4.out
      clear hb4
      go_upto_region 22 with (fail)
      obtain ⟨wz,qC⟩:∃ wz,wz=w4.setCell ⟨w.heap.size+1,2,none⟩ (.int .i64 0):=⟨_,rfl⟩
      have HZ:Hid (wz.heap[w.heap.size+1]?=some (.cells #[.int .i64 3,.string ⟨#[]⟩,.int .i64 0,.slice none 0 0,.int .i64 (i:Int)] 71 (0,0))):=anc (by rw [qC];exact kV (k:=2) HT4.out)
      have JK:Hid (wz.heap[w.heap.size]?=some (.cells #[.int .i64 0,.string ⟨#[]⟩,.int .i64 0,.slice none 0 0,.int .i64 0] 71 (0,0))):=anc (by rw [qC];exact (ann _ ⟨w.heap.size+1,2,none⟩ _ w.heap.size (by simp)).trans qU.out)
      have Gt:Hid (Below w.heap.size w wz):=anc (by rw [qC];exact fP.out.setCell (p:=⟨w.heap.size+1,2,none⟩) (by simp) _)
      rw [←qC]
      clear qC
      obtain ⟨⟨k0,k1,k2,k3,k4⟩,f0,f1,f2,f3,f4⟩:=ay HZ.out
      obtain ⟨⟨l0,l1,l2,l3,l4⟩,q0,q1,q2,q3,q4⟩:=ay JK.out
      go_wp2_with fail
      (try simp only [Exit.inBlock,Exit.then])
      refine ano (dJ rfl rfl rfl rfl rfl (aB JK.out)) rfl ?_
      exact ⟨by rw [hwh,HQ.out];exact ⟨rfl,rfl⟩,aC Gt.out (ank _)⟩
    | some ne =>
      obtain ⟨n,en⟩:=ne
      have HQ:Hid (dO s i false=(.mk 3 ⟨#[]⟩ n [] i,(en:Int),0,0)):=anc (by
       unfold dO
       rw [ny.out]
       simp [hl,hd,hq])
      clear ny
      rw [hq] at hN
      clear hq
      have hneg:decide ((en:Int)<0)=false:=by simp
      go_wp2_with fail
      refine (hW.out).mono ?_
      rintro e w' ⟨rfl,rfl⟩
      go_wp2_with fail
      refine (hL.out).mono ?_
      rintro e w' ⟨rfl,rfl⟩
      go_wp2_with fail
      refine (hD.out).mono ?_
      rintro e w' ⟨rfl,rfl⟩
      go_upto_region 14 with (fail)
      rw [←HW3.out]
      go_wp2_with fail
      refine (hN.out).mono ?_
      rintro e w4 ⟨he,hb4⟩
      unfold JJ at he
      subst he
      have HB4:=anc hb4
      have HT4:Hid (w4.heap[w.heap.size+1]?=some (.cells #[.int .i64 3,.string ⟨#[]⟩,.int .i64 0,.slice none 0 0,.int .i64 (i:Int)] 71 (0,0))):=anc ((hb4.block _ (by omega)).trans HT3.out)
      have qU:Hid (w4.heap[w.heap.size]?=some (.cells #[.int .i64 0,.string ⟨#[]⟩,.int .i64 0,.slice none 0 0,.int .i64 0] 71 (0,0))):=anc ((hb4.block _ (by omega)).trans mP.out)
      have fP:Hid (Below w.heap.size w w4):=anc (HB3.out.trans (hb4.mono (by omega)))
      obtain ⟨⟨a0,a1,a2,a3,a4⟩,b0,b1,b2,b3,b4⟩:=ay HT4.out
      clear hb4
      go_upto_region 22 with (fail)
      obtain ⟨wz,qC⟩:∃ wz,wz=w4.setCell ⟨w.heap.size+1,2,none⟩ (.int .i64 n):=⟨_,rfl⟩
      have HZ:Hid (wz.heap[w.heap.size+1]?=some (.cells #[.int .i64 3,.string ⟨#[]⟩,.int .i64 n,.slice none 0 0,.int .i64 (i:Int)] 71 (0,0))):=anc (by rw [qC];exact kV (k:=2) HT4.out)
      have JK:Hid (wz.heap[w.heap.size]?=some (.cells #[.int .i64 0,.string ⟨#[]⟩,.int .i64 0,.slice none 0 0,.int .i64 0] 71 (0,0))):=anc (by rw [qC];exact (ann _ ⟨w.heap.size+1,2,none⟩ _ w.heap.size (by simp)).trans qU.out)
      have Gt:Hid (Below w.heap.size w wz):=anc (by rw [qC];exact fP.out.setCell (p:=⟨w.heap.size+1,2,none⟩) (by simp) _)
      rw [←qC]
      clear qC
      obtain ⟨⟨k0,k1,k2,k3,k4⟩,f0,f1,f2,f3,f4⟩:=ay HZ.out
      obtain ⟨⟨l0,l1,l2,l3,l4⟩,q0,q1,q2,q3,q4⟩:=ay JK.out
      go_wp2_with fail
      (try simp only [Exit.inBlock,Exit.then])
      refine ano (dJ rfl rfl rfl rfl rfl (aB JK.out)) rfl ?_
      exact ⟨by rw [hwh,HQ.out];exact ⟨rfl,rfl⟩,aC Gt.out (ank _)⟩
  ·rw [hl] at hL
   have HQ:Hid (dO s i false=(.mk 2 (s.extract i (iQ jT s i)) 0 [] i,(iQ jT s i:Int),0,0)):=anc (by
    unfold dO
    rw [ny.out]
    simp [hl])
   clear ny
   obtain ⟨k,hk⟩:∃ k,iQ jT s i=k:=⟨_,rfl⟩
   have hge:=nP (p:=jT) (s:=s) _ i rfl
   rw [hk] at hge HQ hR
   have hk1:i≤k:=hge.1
   have hk2:k≤s.size:=hge.2 (by omega)
   clear hge hk
   go_wp2_with fail
   refine (hW.out).mono ?_
   rintro e w' ⟨rfl,rfl⟩
   go_wp2_with fail
   refine (hL.out).mono ?_
   rintro e w' ⟨rfl,rfl⟩
   go_wp2_with fail
   refine (hR.out).mono ?_
   rintro e w' ⟨rfl,rfl⟩
   go_upto_region 11 with (fail)
   obtain ⟨⟨j0,j1,j2,j3,j4⟩,e0,e1,e2,e3,e4⟩:=ay HT2.out
   go_region
   all_goals
    obtain ⟨wz,qC⟩:∃ wz,wz=((w2.setCell ⟨w.heap.size+1,0,none⟩ (.int .i64 2)).setCell ⟨w.heap.size+1,1,none⟩ (.string (s.extract i k))).drew:=⟨_,rfl⟩
    have HZ:Hid (wz.heap[w.heap.size+1]?=some (.cells #[.int .i64 2,.string (s.extract i k),.int .i64 0,.slice none 0 0,.int .i64 (i:Int)] 71 (0,0))):=anc (by rw [qC];exact kV (k:=1) (kV (k:=0) HT2.out))
    have JK:Hid (wz.heap[w.heap.size]?=some (.cells #[.int .i64 0,.string ⟨#[]⟩,.int .i64 0,.slice none 0 0,.int .i64 0] 71 (0,0))):=anc (by rw [qC];exact (ann _ ⟨w.heap.size+1,1,none⟩ _ w.heap.size (by simp)).trans ((ann _ ⟨w.heap.size+1,0,none⟩ _ w.heap.size (by simp)).trans dG.out))
    have Gt:Hid (Below w.heap.size w wz):=anc (by rw [qC];exact ((HB2.out.setCell (p:=⟨w.heap.size+1,0,none⟩) (by simp) _).setCell (p:=⟨w.heap.size+1,1,none⟩) (by simp) _).drew)
    rw [←qC]
    clear qC
    obtain ⟨⟨k0,k1,k2,k3,k4⟩,f0,f1,f2,f3,f4⟩:=ay HZ.out
    obtain ⟨⟨l0,l1,l2,l3,l4⟩,q0,q1,q2,q3,q4⟩:=ay JK.out
    go_wp2_with fail
    (try simp only [Exit.inBlock,Exit.then])
    refine ano (dJ rfl rfl rfl rfl rfl (aB JK.out)) rfl ?_
    exact ⟨by rw [hwh,HQ.out];exact ⟨rfl,rfl⟩,aC Gt.out (ank _)⟩
 ·rw [hwh] at hW
  cases hl:jT s[i]
  ·rw [hl] at hL
   cases hd:jr s[i]
   ·rw [hd] at hD
    cases h45:((s[i].toNat:Int)==45)
    ·have p45:Hid (¬(s[i].toNat:Int)=45):=anc (by simpa using h45)
     cases qR:((s[i].toNat:Int)==34)
     ·have p34:Hid (¬(s[i].toNat:Int)=34):=anc (by simpa using qR)
      have HQ:Hid (dO s i true=(.mk 0 ⟨#[]⟩ 0 [] i,(i:Int)+1,12,(i:Int))):=anc (by
       unfold dO
       rw [ny.out]
       simp [hl,hd,p45.out,p34.out])
      clear ny
      go_wp2_with fail
      refine (hW.out).mono ?_
      rintro e w' ⟨rfl,rfl⟩
      go_wp2_with fail
      refine (hL.out).mono ?_
      rintro e w' ⟨rfl,rfl⟩
      go_wp2_with fail
      refine (hD.out).mono ?_
      rintro e w' ⟨rfl,rfl⟩
      go_wp2_with fail
      refine (hL.out).mono ?_
      rintro e w' ⟨rfl,rfl⟩
      go_wp2_with fail
      refine (hD.out).mono ?_
      rintro e w' ⟨rfl,rfl⟩
      obtain ⟨⟨k0,k1,k2,k3,k4⟩,f0,f1,f2,f3,f4⟩:=ay HT2.out
      obtain ⟨⟨l0,l1,l2,l3,l4⟩,q0,q1,q2,q3,q4⟩:=ay dG.out
      go_wp2_with fail
      (try simp only [Exit.inBlock,Exit.then])
      refine ano (dJ rfl rfl rfl rfl rfl (aB dG.out)) rfl ?_
      exact ⟨by rw [hwh,HQ.out];exact ⟨rfl,rfl⟩,aC HB2.out (ank _)⟩
     ·have p34:Hid ((s[i].toNat:Int)=34):=anc (by simpa using qR)
      have HQ:Hid (dO s i true=(.mk 0 ⟨#[]⟩ 0 [] i,(i:Int)+1,11,(i:Int))):=anc (by
       unfold dO
       rw [ny.out]
       simp [hl,hd,p45.out,p34.out])
      clear ny
      go_wp2_with fail
      refine (hW.out).mono ?_
      rintro e w' ⟨rfl,rfl⟩
      go_wp2_with fail
      refine (hL.out).mono ?_
      rintro e w' ⟨rfl,rfl⟩
      go_wp2_with fail
      refine (hD.out).mono ?_
      rintro e w' ⟨rfl,rfl⟩
      obtain ⟨⟨k0,k1,k2,k3,k4⟩,f0,f1,f2,f3,f4⟩:=ay HT2.out
      obtain ⟨⟨l0,l1,l2,l3,l4⟩,q0,q1,q2,q3,q4⟩:=ay dG.out
      go_wp2_with fail
      (try simp only [Exit.inBlock,Exit.then])
      refine ano (dJ rfl rfl rfl rfl rfl (aB dG.out)) rfl ?_
      exact ⟨by rw [hwh,HQ.out];exact ⟨rfl,rfl⟩,aC HB2.out (ank _)⟩
    ·have p45:Hid ((s[i].toNat:Int)=45):=anc (by simpa using h45)
     have HQ:Hid (dO s i true=(.mk 0 ⟨#[]⟩ 0 [] i,(i:Int)+1,11,(i:Int))):=anc (by
      unfold dO
      rw [ny.out]
      simp [hl,hd,p45.out])
     clear ny
     go_wp2_with fail
     refine (hW.out).mono ?_
     rintro e w' ⟨rfl,rfl⟩
     go_wp2_with fail
     refine (hL.out).mono ?_
     rintro e w' ⟨rfl,rfl⟩
     go_wp2_with fail
     refine (hD.out).mono ?_
     rintro e w' ⟨rfl,rfl⟩
     obtain ⟨⟨k0,k1,k2,k3,k4⟩,f0,f1,f2,f3,f4⟩:=ay HT2.out
     obtain ⟨⟨l0,l1,l2,l3,l4⟩,q0,q1,q2,q3,q4⟩:=ay dG.out
     go_wp2_with fail
     (try simp only [Exit.inBlock,Exit.then])
     refine ano (dJ rfl rfl rfl rfl rfl (aB dG.out)) rfl ?_
     exact ⟨by rw [hwh,HQ.out];exact ⟨rfl,rfl⟩,aC HB2.out (ank _)⟩
   ·rw [hd] at hD
    have HQ:Hid (dO s i true=(.mk 0 ⟨#[]⟩ 0 [] i,(i:Int)+1,11,(i:Int))):=anc (by
     unfold dO
     rw [ny.out]
     simp [hl,hd])
    clear ny
    go_wp2_with fail
    refine (hW.out).mono ?_
    rintro e w' ⟨rfl,rfl⟩
    go_wp2_with fail
    refine (hL.out).mono ?_
    rintro e w' ⟨rfl,rfl⟩
    go_wp2_with fail
    refine (hD.out).mono ?_
    rintro e w' ⟨rfl,rfl⟩
    obtain ⟨⟨k0,k1,k2,k3,k4⟩,f0,f1,f2,f3,f4⟩:=ay HT2.out
    obtain ⟨⟨l0,l1,l2,l3,l4⟩,q0,q1,q2,q3,q4⟩:=ay dG.out
    go_wp2_with fail
    (try simp only [Exit.inBlock,Exit.then])
    refine ano (dJ rfl rfl rfl rfl rfl (aB dG.out)) rfl ?_
    exact ⟨by rw [hwh,HQ.out];exact ⟨rfl,rfl⟩,aC HB2.out (ank _)⟩
  ·rw [hl] at hL
   have HQ:Hid (dO s i true=(.mk 0 ⟨#[]⟩ 0 [] i,(i:Int)+1,11,(i:Int))):=anc (by
    unfold dO
    rw [ny.out]
    simp [hl])
   clear ny
   go_wp2_with fail
   refine (hW.out).mono ?_
   rintro e w' ⟨rfl,rfl⟩
   go_wp2_with fail
   refine (hL.out).mono ?_
   rintro e w' ⟨rfl,rfl⟩
   obtain ⟨⟨k0,k1,k2,k3,k4⟩,f0,f1,f2,f3,f4⟩:=ay HT2.out
   obtain ⟨⟨l0,l1,l2,l3,l4⟩,q0,q1,q2,q3,q4⟩:=ay dG.out
   go_wp2_with fail
   (try simp only [Exit.inBlock,Exit.then])
   refine ano (dJ rfl rfl rfl rfl rfl (aB dG.out)) rfl ?_
   exact ⟨by rw [hwh,HQ.out];exact ⟨rfl,rfl⟩,aC HB2.out (ank _)⟩
structure Aside (X:Nat→Prop)(w w':World):Prop where
 os:w'.os=w.os
 tape:w'.tape=w.tape
 output:w'.output=w.output
 size:w.heap.size≤w'.heap.size
 block:∀ b,b<w.heap.size→¬X b→w'.heap[b]?=w.heap[b]?
section
variable {X:Nat→Prop} {w w' w'':World}
theorem Aside.of_below (h:Below w.heap.size w w'):Aside X w w':=⟨h.os,h.tape,h.output,h.size,fun b hb _=>h.block b hb⟩
theorem Aside.trans (h:Aside X w w')(h':Aside X w' w''):Aside X w w'' :=
 ⟨h'.os.trans h.os,h'.tape.trans h.tape,h'.output.trans h.output,anv h.size h'.size,fun b hb hx=>(h'.block b (anp hb h.size) hx).trans (h.block b hb hx)⟩
theorem Aside.mono {Y:Nat→Prop} (h:Aside X w w')(hXY:∀ b,b<w.heap.size→X b→Y b):Aside Y w w':=⟨h.os,h.tape,h.output,h.size,fun b hb hy=>h.block b hb fun hx=>hy (hXY b hb hx)⟩
theorem Aside.alloc (h:Aside X w w')(o:Obj):Aside X w (w'.alloc o):=h.trans (.of_below ((anl _ _).alloc (ank _) o))
theorem Aside.drew (h:Aside X w w'):Aside X w w'.drew:=h.trans (.of_below (anl _ _).drew)
theorem Aside.setCell (h:Aside X w w')(p:Addr)(u:Value)(hp:p.block<w.heap.size→X p.block):Aside X w (w'.setCell p u):=by
 have hb:=(anl 0 w').setCell (p:=p) (Nat.zero_le _) u
 exact ⟨hb.os.trans h.os,hb.tape.trans h.tape,hb.output.trans h.output,anv h.size hb.size,fun b hlt hx=>(ann w' p u b (fun e=>hx (e ▸ hp (e ▸ hlt)))).trans (h.block b hlt hx)⟩
theorem Aside.grown {row:Option Nat} (h:Aside X w w')(hg:w'.grownBy w'' row)(hr:∀ b,row=some b→b<w.heap.size→X b):Aside X w w'':=by
 have hb:=(anl 0 w').grown hg (Nat.zero_le _) (fun _ _=>Nat.zero_le _)
 exact ⟨hb.os.trans h.os,hb.tape.trans h.tape,hb.output.trans h.output,anv h.size hb.size,fun b hlt hx=>(hg.block b (anp hlt h.size) (fun e=>hx (hr b e.symm hlt))).trans (h.block b hlt hx)⟩
theorem Aside.below {B:Nat} (h:Aside X w w')(hB:B≤w.heap.size)(hX:∀ b,X b→B≤b):Below B w w':=⟨h.os,h.tape,h.output,h.size,fun b hb=>h.block b (by omega) fun hx=>by have:=hX b hx;omega⟩
end
def vY (t:TypeId)(w w':World)(base gO o:Nat)(cur:Array Value)(A:Option Addr)(n:Nat)(qs:List TP)(x:TP):Prop:=∃ g' cap',
 w'.ownsRow base 71 5 (.slice (some ⟨g',0,none⟩) (n+1) cap') (n+1) (aO (qs++[x])) ∧
 w'.heap[gO]?=some (.cells (cur.setIfInBounds o (.slice (some ⟨g',0,none⟩) (n+1) cap')) t (0,0)) ∧
 Aside (fun b=>b=gO∨∃ ad,A=some ad∧ad.block=b) w w' ∧
 ((∃ ad,A=some ad∧ad.block=g')∨w.heap.size≤g')
abbrev UA:=vY 71
theorem yu {w:World} {base:Nat} {e:TypeId} {g cap n:Nat} {qs:List TP} {z:List Value} {x0 x1 x2 x3 x4:Value} (h:w.ownsRow base e 5 (.slice (some ⟨g,0,none⟩) (n+1) cap) (n+1) (aO qs++z))(hn:qs.length=n) :
 (((((w.setCell ⟨g,n*5,none⟩ x0).setCell ⟨g,n*5+1,none⟩ x1).setCell ⟨g,n*5+2,none⟩ x2).setCell ⟨g,n*5+3,none⟩ x3).setCell ⟨g,n*5+4,none⟩ x4).ownsRow base e 5 (.slice (some ⟨g,0,none⟩) (n+1) cap) (n+1) (aO qs++[x0,x1,x2,x3,x4]):=by
 obtain ⟨h1,h2⟩:=h
 have hfl:=fF qs
 have hz:z.length=5:=by rw [List.length_append] at h1;omega
 refine ⟨by rw [List.length_append,hfl];simp;omega,.inr ?_⟩
 rcases h2 with ⟨h',_⟩ | ⟨g',cap',cur,h',hb,hg,hnc,hcm,hcs,htake⟩
 ·simp at h'
 ·simp only [Value.slice.injEq,Option.some.injEq,Addr.mk.injEq,and_true,true_and] at h'
  obtain ⟨rfl,rfl⟩:=h'
  refine ⟨g,cap,((((cur.setIfInBounds (n*5) x0).setIfInBounds (n*5+1) x1).setIfInBounds (n*5+2) x2).setIfInBounds (n*5+3) x3).setIfInBounds (n*5+4) x4,rfl,hb,Ie.D7 (Ie.D7 (Ie.D7 (Ie.D7 (Ie.D7 hg _ _) _ _) _ _) _ _) _ _,hnc,hcm,by simpa using hcs,?_⟩
  have hlt:(n+1)*5≤cur.size:=by rw [hcs];omega
  apply List.ext_getElem?
  intro i
  have hti:=congrArg (fun l=>l[i]?) htake
  rcases Nat.lt_or_ge i ((n+1)*5) with hi | hi
  ·rw [List.getElem?_take_of_lt hi] at hti ⊢
   rw [Array.getElem?_toList] at hti ⊢
   rcases Nat.lt_or_ge i (n*5) with hi2 | hi2
   ·rw [List.getElem?_append_left (by omega)] at hti ⊢
    rw [←hti]
    simp [Array.getElem?_setIfInBounds,show ¬n*5=i by omega,show ¬n*5+1=i by omega,show ¬n*5+2=i by omega,show ¬n*5+3=i by omega,show ¬n*5+4=i by omega]
   ·obtain ⟨r,rfl⟩:∃ r,i=n*5+r:=⟨i-n*5,by omega⟩
    have hr:r<5:=by omega
    rw [List.getElem?_append_right (by omega),show n*5+r-(aO qs).length=r by omega]
    have hsz:n*5+5≤cur.size:=by omega
    match r,hr with
    | 0,_=>simp [Array.getElem?_setIfInBounds,show n*5<cur.size by omega]
    | 1,_=>simp [Array.getElem?_setIfInBounds,show n*5+1<cur.size by omega]
    | 2,_=>simp [Array.getElem?_setIfInBounds,show n*5+2<cur.size by omega]
    | 3,_=>simp [Array.getElem?_setIfInBounds,show n*5+3<cur.size by omega]
    | 4,_=>simp [Array.getElem?_setIfInBounds,show n*5+4<cur.size by omega]
  ·rw [List.getElem?_take_eq_none hi,List.getElem?_eq_none (by rw [List.length_append,hfl];simp;omega)]
theorem uF {w w':World} {base n c g:Nat} {e:TypeId} {z:Nat} {xs:List Value} (h:w.ownsRow base e z (.slice (some ⟨g,0,none⟩) n c) n xs)(hb:w'.heap[g]?=w.heap[g]?):w'.ownsRow base e z (.slice (some ⟨g,0,none⟩) n c) n xs:=by
 refine ⟨h.1,?_⟩
 rcases h.2 with hn | ⟨g',cap,cur,e1,hg,hgg,rest⟩
 ·exact .inl hn
 ·have hgg':g=g':=by injection e1 with e1;injection e1 with e1;injection e1
  subst hgg'
  exact .inr ⟨g,cap,cur,e1,hg,by rw [hb];exact hgg,rest⟩
theorem Bl {w:World} {base n:Nat} {e:TypeId} {v:Value} {qs:List TP} (h:w.ownsRow base e 5 v n (aO qs)):qs.length=n:=by
 have:=h.1
 rw [fF] at this
 omega
section
variable {t:TypeId} {w w5:World} {base gO o g5 cap5 n:Nat} {cur:Array Value} {A:Option Addr} {qs:List TP} {x:TP}
theorem G8 (hA:Aside (fun b=>∃ ad,A=some ad∧ad.block=b) w w5)(hg:(∃ ad,A=some ad∧ad.block=g5)∨w.heap.size≤g5)(hown:w5.ownsRow base 71 5 (.slice (some ⟨g5,0,none⟩) (n+1) cap5) (n+1) (aO qs++TP.cs x))
 (YH:w5.heap[gO]?=some (.cells cur t (0,0)))(hne:g5≠gO):vY t w (w5.setCell ⟨gO,o,none⟩ (.slice (some ⟨g5,0,none⟩) (n+1) cap5)) base gO o cur A n qs x:=by
 refine ⟨g5,cap5,?_,Ie.D7 YH _ _,(hA.mono fun b _ h=>.inr h).setCell _ _ (fun _=>.inl rfl),hg⟩
 rw [fZ,bD]
 exact uF hown (ann w5 ⟨gO,o,none⟩ _ g5 hne)
theorem sS {z:List Value} (hA:Aside (fun b=>∃ ad,A=some ad∧ad.block=b) w w5)(hg:(∃ ad,A=some ad∧ad.block=g5)∨w.heap.size≤g5)(hown:w5.ownsRow base 71 5 (.slice (some ⟨g5,0,none⟩) (n+1) cap5) (n+1) (aO qs++z))
 (YH:w5.heap[gO]?=some (.cells cur t (0,0)))(hne:g5≠gO)(hq:qs.length=n) :
 vY t w ((((((w5.setCell ⟨gO,o,none⟩ (.slice (some ⟨g5,0,none⟩) (n+1) cap5)).setCell ⟨g5,n*5,none⟩ (.int .i64 x.1.k)).setCell ⟨g5,n*5+1,none⟩ (.string x.1.s)).setCell ⟨g5,n*5+2,none⟩ (.int .i64 x.1.n)).setCell ⟨g5,n*5+3,none⟩ (.slice x.2.1 x.1.kids.length x.2.2)).setCell ⟨g5,n*5+4,none⟩ (.int .i64 x.1.at_)) base gO o cur A n qs x:=by
 have hx:g5<w.heap.size→(fun b=>b=gO∨∃ ad,A=some ad∧ad.block=b) g5:=fun h=>by
  rcases hg with h' | h'
  ·exact .inr h'
  ·omega
 refine ⟨g5,cap5,?_,?_,((((((hA.mono fun b _ h=>.inr h).setCell _ _ (fun _=>.inl rfl)).setCell _ _ hx).setCell _ _ hx).setCell _ _ hx).setCell _ _ hx).setCell _ _ hx,hg⟩
 ·rw [fZ,bD]
  exact yu (uF hown (ann w5 ⟨gO,o,none⟩ _ g5 hne)) hq
 ·exact (ann _ ⟨g5,n*5+4,none⟩ _ gO (Ne.symm hne)).trans ((ann _ ⟨g5,n*5+3,none⟩ _ gO (Ne.symm hne)).trans ((ann _ ⟨g5,n*5+2,none⟩ _ gO (Ne.symm hne)).trans ((ann _ ⟨g5,n*5+1,none⟩ _ gO (Ne.symm hne)).trans ((ann _ ⟨g5,n*5,none⟩ _ gO (Ne.symm hne)).trans (Ie.D7 YH _ _)))))
theorem Am {z:List Value} (hA:Aside (fun b=>∃ ad,A=some ad∧ad.block=b) w w5)(hg:(∃ ad,A=some ad∧ad.block=g5)∨w.heap.size≤g5)(hown:w5.ownsRow base 71 5 (.slice (some ⟨g5,0,none⟩) (n+1) cap5) (n+1) (aO qs++z))
 (YH:w5.heap[gO]?=some (.cells cur t (0,0)))(hne:g5≠gO)(hq:qs.length=n) :
 vY t w ((((((w5.setCell ⟨g5,n*5,none⟩ (.int .i64 x.1.k)).setCell ⟨g5,n*5+1,none⟩ (.string x.1.s)).setCell ⟨g5,n*5+2,none⟩ (.int .i64 x.1.n)).setCell ⟨g5,n*5+3,none⟩ (.slice x.2.1 x.1.kids.length x.2.2)).setCell ⟨g5,n*5+4,none⟩ (.int .i64 x.1.at_)).setCell ⟨gO,o,none⟩ (.slice (some ⟨g5,0,none⟩) (n+1) cap5)) base gO o cur A n qs x:=by
 have hx:g5<w.heap.size→(fun b=>b=gO∨∃ ad,A=some ad∧ad.block=b) g5:=fun h=>by
  rcases hg with h' | h'
  ·exact .inr h'
  ·omega
 refine ⟨g5,cap5,?_,Ie.D7 ?_ _ _,((((((hA.mono fun b _ h=>.inr h).setCell _ _ hx).setCell _ _ hx).setCell _ _ hx).setCell _ _ hx).setCell _ _ hx).setCell _ _ (fun _=>.inl rfl),hg⟩
 ·rw [fZ,bD]
  exact uF (yu hown hq) (ann _ ⟨gO,o,none⟩ _ g5 hne)
 ·exact (ann _ ⟨g5,n*5+4,none⟩ _ gO (Ne.symm hne)).trans ((ann _ ⟨g5,n*5+3,none⟩ _ gO (Ne.symm hne)).trans ((ann _ ⟨g5,n*5+2,none⟩ _ gO (Ne.symm hne)).trans ((ann _ ⟨g5,n*5+1,none⟩ _ gO (Ne.symm hne)).trans ((ann _ ⟨g5,n*5,none⟩ _ gO (Ne.symm hne)).trans YH))))
end
end Go.Proofs.YtjhkihkiebnpaaaGreatDoor
namespace Go.Proofs.YtjhkihkiebnpaaaGreatDoor
namespace ai
section
variable {P:Program} {ops:Array Oper} {Q:Exit→Act→World→Prop} {md:Region.Mode} {S:World→Prop} {k:Nat}
def dS (P:Program)(md:Region.Mode)(ops:Array Oper)(Q:Exit→Act→World→Prop)(S:World→Prop)(k:Nat):Nat→Array Bool→Act→World→Prop
 | 0,listed,a,w=>Region.ready md ops listed=[]∧Q .normal a w
 | fuel+1,listed,a,w =>
   (Region.ready md ops listed=[]→Q .normal a w) ∧
   ∀ i∈Region.ready md ops listed,wpOp P ops Q i (fun a' w'=>(i≠k→S w')∧dS P md ops Q S k fuel (listed.setIfInBounds i true) a' w') a w
theorem jR:∀ (fuel:Nat)(listed:Array Bool)(a:Act)(w:World),dS P md ops Q S k fuel listed a w→wpAny P md ops Q fuel listed a w
 | 0,_,_,_,h=>h
 | fuel+1,_,_,_,h=>⟨h.1,fun i hi=>wpOp_mono (fun a' w' h'=>jR fuel _ a' w' h'.2) (h.2 i hi)⟩
theorem qG {i:Nat} {oi:Oper} {v:Value} {C:List Nat} (hi:ops[i]?=some oi)(hsel:∀ (j:Nat)(o:Oper) cs b,ops[j]?=some o→o.op≠.select cs b)
 (hQ:∀ c a w,Q (.panic c) (a.put oi.dst v) w→Q (.panic c) a w)(hkC:k∈C)
 (hC:∀ c∈C,c≠i→∀ o,ops[c]?=some o→∃ e∈o.after,Region.binds md e=true∧e.on∈C) :
 ∀ (fuel:Nat)(listed:Array Bool)(a:Act)(w:World),
   (∀ j oj,ops[j]?=some oj→j≠i→listed.getD j true=false→(∀ e∈oj.after,Region.binds md e=true→e.on≠i)→oi.apart ops oj=true) →
   (∀ c∈C,listed.getD c true=false) →
   i∈Region.ready md ops listed→YieldsIf P ops S oi v a→S w →
   dS P md ops Q S k fuel (listed.setIfInBounds i true) (a.put oi.dst v) w→dS P md ops Q S k (fuel+1) listed a w:=by
 intro fuel
 induction fuel with
 | zero =>
   intro listed a w _ _ hr hy hS H
   refine ⟨fun h=>(by rw [h] at hr;cases hr),fun j hj=>?_⟩
   by_cases hji:j=i
   ·subst hji;exact hy.wpOp hi hS ⟨fun _=>hS,H⟩
   ·have:=ready_mono hj hji
    rw [H.1] at this
    cases this
 | succ fuel ih =>
   intro listed a w hfree hun hr hy hS H
   refine ⟨fun h=>(by rw [h] at hr;cases hr),fun j hj=>?_⟩
   by_cases hji:j=i
   ·subst hji;exact hy.wpOp hi hS ⟨fun _=>hS,H⟩
   ·have h1:=H.2 j (ready_mono hj hji)
    obtain ⟨hjun,oj,hoj,hall⟩:=mem_ready.1 hj
    have hjC:j ∉ C:=fun hm=>by
     obtain ⟨e,he,hb,heC⟩:=hC j hm hji oj hoj
     have t1:=hall e he hb
     have t2:=hun e.on heC
     rcases Nat.lt_or_ge e.on listed.size with h' | h'
     ·simp [h'] at t1 t2;rw [t1] at t2;cases t2
     ·simp [Array.getElem?_eq_none h'] at t1
    have hjk:j≠k:=fun e=>hjC (by rw [e];exact hkC)
    have hnot:∀ e∈oj.after,Region.binds md e=true→e.on≠i:=fun e he hb heq=>by
     have h1:=hall e he hb
     have h0:=(mem_ready.1 hr).1
     rw [heq] at h1
     rcases Nat.lt_or_ge i listed.size with h' | h'
     ·simp [h'] at h0 h1;rw [h0] at h1;cases h1
     ·simp [Array.getElem?_eq_none h'] at h1
    have h2:=wpOp_putIf hoj (hfree j oj hoj hji hjun hnot) (fun cs b=>hsel i oi cs b hi) (fun cs b=>hsel j oj cs b hoj) hQ hy h1
    have hfree':∀ k ok,ops[k]?=some ok→k≠i→(listed.setIfInBounds j true).getD k true=false →
     (∀ e∈ok.after,Region.binds md e=true→e.on≠i)→oi.apart ops ok=true:=fun k ok hk hki hun hno=>by
     refine hfree k ok hk hki ?_ hno
     by_cases hjk:j=k
     ·subst hjk;exact hjun
     ·rw [getD_set_ne true hjk] at hun;exact hun
    have hun':∀ c∈C,(listed.setIfInBounds j true).getD c true=false:=fun c hc=>by
     have hne:j≠c:=fun e=>hjC (by rw [e];exact hc)
     rw [getD_set_ne true hne];exact hun c hc
    refine wpOp_mono (fun a' w' h3=>⟨h3.2.1,ih (listed.setIfInBounds j true) a' w' hfree' hun' (ready_mono hr (Ne.symm hji)) h3.1 (h3.2.1 hjk) ?_⟩) h2
    rw [Array.setIfInBounds_comm _ _ hji]
    exact h3.2.2
def xR (md:Region.Mode)(ops:Array Oper)(listed:Array Bool)(C:List Nat)(i k:Nat):Bool :=
 C.contains k&&C.all fun c=>(!(listed.getD c true))&&(Nat.beq c i || match ops[c]? with
  | some o=>o.after.any fun e=>Region.binds md e&&C.contains e.on
  | none=>true)
theorem ae {i:Nat} {oi:Oper} {v:Value} {C:List Nat} {fuel:Nat} {listed:Array Bool} {a:Act} {w:World} (hi:ops[i]?=some oi)
 (hs:Region.noSelect ops=true)(hf:Region.free md ops listed i=true)(hr:(Region.ready md ops listed).contains i=true)(hc:xR md ops listed C i k=true)
 (hQ:∀ c a w,Q (.panic c) (a.put oi.dst v) w→Q (.panic c) a w)(hy:YieldsIf P ops S oi v a)(hS:S w)
 (h:dS P md ops Q S k fuel (listed.setIfInBounds i true) (a.put oi.dst v) w):dS P md ops Q S k (fuel+1) listed a w:=by
 unfold xR at hc
 simp only [Bool.and_eq_true,List.all_eq_true,Bool.or_eq_true,Nat.beq_eq] at hc
 obtain ⟨hk,hc⟩:=hc
 refine qG hi (Region.noSelect_spec hs) hQ (by simpa using hk) (fun c hm hne o ho=>?_) fuel listed a w (Region.free_spec hi hf) (fun c hm=>by have:=(hc c hm).1;simpa using this) (by simpa using hr) hy hS h
 rcases (hc c hm).2 with h' | h'
 ·exact absurd h' hne
 ·rw [ho] at h'
  simp only [Array.any_eq_true,Bool.and_eq_true] at h'
  obtain ⟨n,hn,hb,hcn⟩:=h'
  exact ⟨o.after[n],Array.getElem_mem hn,hb,by simpa using hcn⟩
def ah (P:Program)(md:Region.Mode)(ops:Array Oper)(Q:Exit→Act→World→Prop)(S:World→Prop)(k:Nat)(fuel:Nat)(listed:Array Bool)(a:Act)(w:World)(rs:List Nat):Prop :=
 ∀ i∈rs,wpOp P ops Q i (fun a' w'=>(i≠k→S w')∧dS P md ops Q S k fuel (listed.setIfInBounds i true) a' w') a w
theorem ah.nil {fuel:Nat} {listed:Array Bool} {a:Act} {w:World}:ah P md ops Q S k fuel listed a w []:=fun _ h=>by cases h
theorem ah.cons {fuel:Nat} {listed:Array Bool} {a:Act} {w:World} {i:Nat} {o:Oper} {rs:List Nat} (ho:ops[i]?=some o)
 (h:∀ K':Act→World→Prop,Shut (∀ a w,S w→(S w→dS P md ops Q S k fuel (listed.setIfInBounds i true) a w)→K' a w)→if Region.wanted o (yielded ops a.tmps)=true then Oper.wp P o a w K' Q else K' (a.put o.dst undef) w)
 (hs:ah P md ops Q S k fuel listed a w rs):ah P md ops Q S k fuel listed a w (i::rs):=fun j hj=>by
 rcases List.mem_cons.1 hj with rfl | hj
 ·exact wpOp_step ho (fun K' hK=>h K' (fun a w hS hW=>hK a w ⟨fun _=>hS,hW hS⟩))
 ·exact hs j hj
theorem ah.last {fuel:Nat} {listed:Array Bool} {a:Act} {w:World} {o:Oper} (ho:ops[k]?=some o)
 (h:∀ K':Act→World→Prop,Shut (∀ a w,dS P md ops Q S k fuel (listed.setIfInBounds k true) a w→K' a w)→if Region.wanted o (yielded ops a.tmps)=true then Oper.wp P o a w K' Q else K' (a.put o.dst undef) w) :
 ah P md ops Q S k fuel listed a w [k]:=fun j hj=>by
 obtain rfl:j=k:=by simpa using hj
 exact wpOp_step ho (fun K' hK=>h K' (fun a w hW=>hK a w ⟨fun e=>absurd rfl e,hW⟩))
theorem au {rs:List Nat} {fuel:Nat} {listed:Array Bool} {a:Act} {w:World} (hr:Region.ready md ops listed=rs)(hne:rs≠[])
 (h:ah P md ops Q S k fuel listed a w rs):dS P md ops Q S k (fuel+1) listed a w:=⟨fun h0=>absurd (hr ▸ h0) hne,hr ▸ h⟩
theorem dw {listed:Array Bool} {a:Act} {w:World} (hr:Region.ready md ops listed=[])(h:Q .normal a w) :
 ∀ fuel,dS P md ops Q S k fuel listed a w
 | 0=>⟨hr,h⟩
 | _+1=>⟨fun _=>h,by rw [hr];simp⟩
theorem dU {id:Nat} {a:Act} {w:World} (S:World→Prop)(k:Nat)(hm:P.follows .mixedOrders=true)(hS:S w.drew)
 (h:S w.drew→dS P .any ops Q S k ops.size (Array.replicate ops.size false) a w.drew):(Code.region id ops true).wp P Q a w :=
 wp_region_any hm (jR _ _ _ _ (h hS))
end
end ai
end Go.Proofs.YtjhkihkiebnpaaaGreatDoor
namespace Go.Proofs.YtjhkihkiebnpaaaGreatDoor
open Go.RowKit
theorem JL {ops:Array Oper} {a:Act} {w:World} {K:Act→World→Prop} {Q:Exit→Act→World→Prop} {E:Prop} (o:Oper)(hg:o.guard=none)(x:Tmp)(ho:o.op=.buildSlice 69 1 #[(0,.tmp x)])
 (k n l:Int)(s:ByteArray)(A:Option Addr)(m c:Nat)(hv:a.eval (.tmp x)=.agg #[.int .i64 k,.string s,.int .i64 n,.slice A m c,.int .i64 l])
 (h:K (a.put o.dst (.slice (some ⟨w.heap.size,0,none⟩) 1 1)) (w.alloc (.cells #[.int .i64 k,.string s,.int .i64 n,.slice A m c,.int .i64 l] 71))) :
 if Region.wanted o (yielded ops a.tmps)=true then Oper.wp Tryz.prog o a w K Q else E:=by
 have hw:Region.wanted o (yielded ops a.tmps)=true:=by simp [Region.wanted,hg]
 rw [if_pos hw]
 have hv':a.tmps[x]?.getD undef=.agg #[.int .i64 k,.string s,.int .i64 n,.slice A m c,.int .i64 l]:=by simpa [Act.eval] using hv
 clear hv hw
 obtain ⟨d,op,ty,p,af,gd⟩:=o
 simp only at ho hg h
 subst ho hg
 go_simp
 exact h
theorem sU {ops:Array Oper} {a:Act} {w:World} {K:Act→World→Prop} {Q:Exit→Act→World→Prop} {E:Prop} (o:Oper)(hg:o.guard=none)(ho:o.op=.buildSlice 69 1 #[(0,.const (.agg #[.int .i64 0,.string ⟨#[]⟩,.int .i64 0,.slice none 0 0,.int .i64 0]))])
 (h:K (a.put o.dst (.slice (some ⟨w.heap.size,0,none⟩) 1 1)) (w.alloc (.cells #[.int .i64 0,.string ⟨#[]⟩,.int .i64 0,.slice none 0 0,.int .i64 0] 71))) :
 if Region.wanted o (yielded ops a.tmps)=true then Oper.wp Tryz.prog o a w K Q else E:=by
 have hw:Region.wanted o (yielded ops a.tmps)=true:=by simp [Region.wanted,hg]
 rw [if_pos hw]
 clear hw
 obtain ⟨d,op,ty,p,af,gd⟩:=o
 simp only at ho hg h
 subst ho hg
 go_simp
 exact h
theorem Xi (g gO m Np:Nat)(vd:Value)(s:ByteArray)(cur:Array Value)(A:Option Addr)(n c base:Nat)(qs:List TP)(k xn a:Int)(x:ByteArray)(l:List T)(A0:Option Addr)(n0 c0:Nat)(w:World)
 (hg:w.heap[g]?=some (.cells #[.string s,.slice (some ⟨gO,0,none⟩) (m+1) Np,vd] 102 (0,0)))
 (hO:w.heap[gO]?=some (.cells cur 71 (0,0)))(Nq:cur[m*5+3]?=some (.slice A n c))(hm:m≤12)(hn:n≤600)(hbase:base≤w.heap.size)(hn0:n0=l.length)
 (hK:w.ownsRow base 71 5 (.slice A n c) n (aO qs))(UB:∀ ad,A=some ad→ad.block≠g∧ad.block≠gO) :
 Calls Tryz.prog 54 #[.pointer (some ⟨g,0,none⟩),.agg #[.int .i64 k,.string x,.int .i64 xn,.slice A0 n0 c0,.int .i64 a]] w fun e w'=>e=.returned (.tuple #[])∧UA w w' base gO (m*5+3) cur A n qs ((.mk k x xn l a:T),A0,c0):=by
 have g1:w.cell? ⟨g,1,none⟩=some (.slice (some ⟨gO,0,none⟩) (m+1) Np):=by simp [World.cell?,hg]
 have hgl:g<w.heap.size:=(Array.getElem?_eq_some_iff.1 hg).1
 have c3:w.cell? ⟨gO,m*5+3,none⟩=some (.slice A n c):=by simp [World.cell?,hO,Nq]
 have YH:gO<w.heap.size:=(Array.getElem?_eq_some_iff.1 hO).1
 have e1:((m+1:Nat):Int)=(m:Int)+1:=by omega
 obtain ⟨w1,aK⟩:∃ w1,w1=w.alloc (.cells #[.int .i64 k,.string x,.int .i64 xn,.slice A0 n0 c0,.int .i64 a] 71):=⟨_,rfl⟩
 have hb1:Below w.heap.size w w1:=by rw [aK];exact (anl _ _).alloc (ank _) _
 have hs1:w1.heap.size=w.heap.size+1:=by rw [aK];simp
 have hx1:w1.heap[w.heap.size]?=some (.cells #[.int .i64 k,.string x,.int .i64 xn,.slice A0 n0 c0,.int .i64 a] 71 (0,0)):=by rw [aK];exact anm w _
 have HG:=anc hg
 have HO:=anc hO
 have HW1:=anc aK
 have gU:=anc hx1
 have HB1:=anc hb1
 have HK:=anc hK
 have HC:=anc Nq
 obtain ⟨i0,hi,hz0,hz1,hz2⟩:=info_parts mV
 have HN0:=anc hn0
 clear hg hO aK hx1 hb1 hK Nq hn0
 go_enter Tryz.func54,Tryz.ntmps54
 go_upto_region 3 with (fail)
 rw [←HW1.out]
 go_cut [12,13] (fun _ u wx=>∃ b,u=.bool b∧Below w1.heap.size w1 wx)
 case first =>
  go_region
  all_goals
   go_wp2_with fail
   go_meet
   exact ⟨_,rfl,((anl w1.heap.size w1).alloc (ank _) _).drew⟩
 case rest =>
 obtain ⟨b,rfl,hbq⟩:=hcut
 obtain ⟨wq,rfl⟩:∃ wq,wq=wc:=⟨_,rfl⟩
 have YU:=hbq.size
 have hgq:wq.heap[g]?=w.heap[g]?:=(hbq.block g (by omega)).trans (HB1.out.block g hgl)
 have Xj:wq.heap[gO]?=w.heap[gO]?:=(hbq.block gO (by omega)).trans (HB1.out.block gO YH)
 have hxq:wq.heap[w.heap.size]?=some (.cells #[.int .i64 k,.string x,.int .i64 xn,.slice A0 n0 c0,.int .i64 a] 71 (0,0)):=(hbq.block _ (by omega)).trans gU.out
 have qZ:Hid (Below w.heap.size w wq):=anc (HB1.out.trans (hbq.mono (by omega)))
 have hKq:=anc (own_below HK.out qZ.out)
 have hKl:Hid (∀ ad,A=some ad→ad.block<w.heap.size):=anc (fun ad e=>(HK.out.lt ad.block (by rw [e];rfl)).2)
 have ZM:Hid (wq.cell? ⟨gO,m*5+3,none⟩=some (.slice A n c)):=anc ((anw Xj).trans c3)
 have hfO:Hid (wq.frozen? ⟨gO,m*5+3,none⟩=false):=anc (by simp [World.frozen?,Xj,HO.out])
 obtain ⟨⟨x0,x1,x2,x3,x4⟩,_,_,_,_,_⟩:=ay hxq
 have acX:wq.cell? ⟨g,1,none⟩=some (.slice (some ⟨gO,0,none⟩) (m+1) Np):=(anw hgq).trans g1
 have lZ:Hid (∀ w':World,w'.heap[g]?=wq.heap[g]?→w'.heap[gO]?=wq.heap[gO]?→w'.heap[w.heap.size]?=wq.heap[w.heap.size]?→w'.cell? ⟨g,1,none⟩=some (.slice (some ⟨gO,0,none⟩) (m+1) Np)∧w'.cell? ⟨gO,m*5+3,none⟩=some (.slice A n c)∧w'.cell? ⟨w.heap.size,0,none⟩=some (.int .i64 k)∧w'.cell? ⟨w.heap.size,1,none⟩=some (.string x)∧w'.cell? ⟨w.heap.size,2,none⟩=some (.int .i64 xn)∧w'.cell? ⟨w.heap.size,3,none⟩=some (.slice A0 n0 c0)∧w'.cell? ⟨w.heap.size,4,none⟩=some (.int .i64 a)):=anc (fun w' h1 h2 h3=>⟨(anw h1).trans acX,(anw h2).trans ZM.out,(anw h3).trans x0,(anw h3).trans x1,(anw h3).trans x2,(anw h3).trans x3,(anw h3).trans x4⟩)
 have em:((m:Int)+1-1)=(m:Int):=by omega
 have ew:IntKind.i64.wrap (m:Int)=(m:Int):=by unfold IntKind.wrap;simp [IntKind.bits,IntKind.signed];omega
 have el:(m:Int)<(m:Int)+1:=by omega
 have hOq:=anc Xj
 clear hbq hgq Xj hxq x0 x1 x2 x3 x4 acX
 cases b
 ·go_upto_region 6 with (fail)
  refine ai.dU (fun w'=>w'.cell? ⟨g,1,none⟩=some (.slice (some ⟨gO,0,none⟩) (m+1) Np)∧w'.cell? ⟨gO,m*5+3,none⟩=some (.slice A n c)∧w'.cell? ⟨w.heap.size,0,none⟩=some (.int .i64 k)∧w'.cell? ⟨w.heap.size,1,none⟩=some (.string x)∧w'.cell? ⟨w.heap.size,2,none⟩=some (.int .i64 xn)∧w'.cell? ⟨w.heap.size,3,none⟩=some (.slice A0 n0 c0)∧w'.cell? ⟨w.heap.size,4,none⟩=some (.int .i64 a)) 20 (by kernel_rfl) (lZ.out _ rfl rfl rfl) (fun hHeld=>?_)
  refine ai.ae (i:=0) (C:=[0,20]) (v:=?akY) rfl (by kernel_rfl) (by kernel_rfl) (by kernel_rfl) (by kernel_rfl) (fun _ _ _ h=>h) (Or.inl ⟨by rfl,?acY⟩) (by assumption) ?_
  case acY=>(intro w1 hSw;(try dsimp only at hSw);go_simp;try with_reducible rfl)
  simp only [ane,anf,Act.put,anh,ani,anj]
  refine ai.ae (i:=1) (C:=[1,20]) (v:=?akZ) rfl (by kernel_rfl) (by kernel_rfl) (by kernel_rfl) (by kernel_rfl) (fun _ _ _ h=>h) (Or.inl ⟨by rfl,?acZ⟩) (by assumption) ?_
  case acZ=>(intro w1 hSw;(try dsimp only at hSw);go_simp;try with_reducible rfl)
  simp only [ane,ang,anf,Act.put,anh,ani,anj]
  refine ai.ae (i:=2) (C:=[2,20]) (v:=?ak0) rfl (by kernel_rfl) (by kernel_rfl) (by kernel_rfl) (by kernel_rfl) (fun _ _ _ h=>h) (Or.inl ⟨by rfl,?ac0⟩) (by assumption) ?_
  case ac0=>(intro w1 hSw;(try dsimp only at hSw);go_simp;try with_reducible rfl)
  simp only [ane,ang,anf,Act.put,anh,ani,anj]
  refine ai.ae (i:=3) (C:=[3,20]) (v:=?ak1) rfl (by kernel_rfl) (by kernel_rfl) (by kernel_rfl) (by kernel_rfl) (fun _ _ _ h=>h) (Or.inl ⟨by rfl,?ac1⟩) (by assumption) ?_
  case ac1=>(intro w1 hSw;(try dsimp only at hSw);go_simp;try with_reducible rfl)
  simp only [ane,ang,anf,Act.put,anh,ani,anj]
  refine ai.ae (i:=4) (C:=[4,20]) (v:=?ak2) rfl (by kernel_rfl) (by kernel_rfl) (by kernel_rfl) (by kernel_rfl) (fun _ _ _ h=>h) (Or.inl ⟨by rfl,?ac2⟩) (by assumption) ?_
  case ac2=>(intro w1 hSw;(try dsimp only at hSw);go_simp;try with_reducible rfl)
  simp only [ane,ang,anf,Act.put,anh,ani,anj]
  refine ai.ae (i:=5) (C:=[5,20]) (v:=?ak3) rfl (by kernel_rfl) (by kernel_rfl) (by kernel_rfl) (by kernel_rfl) (fun _ _ _ h=>h) (Or.inl ⟨by rfl,?ac3⟩) (by assumption) ?_
  case ac3=>(intro w1 hSw;(try dsimp only at hSw);go_simp;try with_reducible rfl)
  simp only [ane,ang,anf,Act.put,anh,ani,anj]
  refine ai.ae (i:=6) (C:=[6,20]) (v:=?ak4) rfl (by kernel_rfl) (by kernel_rfl) (by kernel_rfl) (by kernel_rfl) (fun _ _ _ h=>h) (Or.inl ⟨by rfl,?ac4⟩) (by assumption) ?_
  case ac4=>(intro w1 hSw;(try dsimp only at hSw);go_simp;try with_reducible rfl)
  simp only [ane,ang,anf,Act.put,anh,ani,anj]
  refine ai.ae (i:=7) (C:=[7,20]) (v:=?ak5) rfl (by kernel_rfl) (by kernel_rfl) (by kernel_rfl) (by kernel_rfl) (fun _ _ _ h=>h) (Or.inl ⟨by rfl,?ac5⟩) (by assumption) ?_
  case ac5=>(intro w1 hSw;(try dsimp only at hSw);go_simp;try with_reducible rfl)
  simp only [ane,ang,anf,Act.put,anh,ani,anj]
  refine ai.ae (i:=8) (C:=[8,20]) (v:=?ak6) rfl (by kernel_rfl) (by kernel_rfl) (by kernel_rfl) (by kernel_rfl) (fun _ _ _ h=>h) (Or.inl ⟨by rfl,?ac6⟩) (by assumption) ?_
  case ac6=>(intro w1 hSw;(try dsimp only at hSw);go_simp;try with_reducible rfl)
  simp only [ane,ang,anf,Act.put,anh,ani,anj]
  refine ai.ae (i:=9) (C:=[9,20]) (v:=?aiv) rfl (by kernel_rfl) (by kernel_rfl) (by kernel_rfl) (by kernel_rfl) (fun _ _ _ h=>h) (Or.inl ⟨by rfl,?ZN⟩) (by assumption) ?_
  case ZN=>(intro w1 hSw;(try dsimp only at hSw);go_simp;try with_reducible rfl)
  simp only [ane,ang,anf,Act.put,anh,ani,anj]
  refine ai.ae (i:=10) (C:=[10,20]) (v:=?aiw) rfl (by kernel_rfl) (by kernel_rfl) (by kernel_rfl) (by kernel_rfl) (fun _ _ _ h=>h) (Or.inl ⟨by rfl,?ZO⟩) (by assumption) ?_
  case ZO=>(intro w1 hSw;(try dsimp only at hSw);go_simp;try with_reducible rfl)
  simp only [ane,ang,anf,Act.put,anh,ani,anj]
  refine ai.ae (i:=11) (C:=[11,20]) (v:=?aix) rfl (by kernel_rfl) (by kernel_rfl) (by kernel_rfl) (by kernel_rfl) (fun _ _ _ h=>h) (Or.inl ⟨by rfl,?ZP⟩) (by assumption) ?_
  case ZP=>(intro w1 hSw;(try dsimp only at hSw);go_simp;try with_reducible rfl)
  simp only [ane,ang,anf,Act.put,anh,ani,anj]
  refine ai.ae (i:=12) (C:=[12,20]) (v:=?aiy) rfl (by kernel_rfl) (by kernel_rfl) (by kernel_rfl) (by kernel_rfl) (fun _ _ _ h=>h) (Or.inl ⟨by rfl,?ZQ⟩) (by assumption) ?_
  case ZQ=>(intro w1 hSw;(try dsimp only at hSw);go_simp;try with_reducible rfl)
  simp only [ane,ang,anf,Act.put,anh,ani,anj]
  refine ai.ae (i:=13) (C:=[13,20]) (v:=?aiz) rfl (by kernel_rfl) (by kernel_rfl) (by kernel_rfl) (by kernel_rfl) (fun _ _ _ h=>h) (Or.inl ⟨by rfl,?ZR⟩) (by assumption) ?_
  case ZR=>(intro w1 hSw;(try dsimp only at hSw);go_simp;try with_reducible rfl)
  simp only [ane,ang,anf,Act.put,anh,ani,anj]
  refine ai.ae (i:=14) (C:=[14,20]) (v:=?aiA) rfl (by kernel_rfl) (by kernel_rfl) (by kernel_rfl) (by kernel_rfl) (fun _ _ _ h=>h) (Or.inl ⟨by rfl,?ZT⟩) (by assumption) ?_
  case ZT=>(intro w1 hSw;(try dsimp only at hSw);go_simp;try with_reducible rfl)
  simp only [ane,ang,anf,Act.put,anh,ani,anj]
  refine ai.ae (i:=15) (C:=[15,20]) (v:=?aiB) rfl (by kernel_rfl) (by kernel_rfl) (by kernel_rfl) (by kernel_rfl) (fun _ _ _ h=>h) (Or.inl ⟨by rfl,?ZU⟩) (by assumption) ?_
  case ZU=>(intro w1 hSw;(try dsimp only at hSw);go_simp;try with_reducible rfl)
  simp only [ane,ang,anf,Act.put,anh,ani,anj]
  refine ai.au (rs:=[16]) (by kernel_rfl) (by simp) ?_
  refine (ai.ah.cons rfl (fun K hK=>?_) ai.ah.nil)
  refine JL _ rfl 51 rfl k xn a x A0 n0 c0 rfl ?_
  refine hK.out _ _ (lZ.out _ (ant _ _ _ (by simp;omega)) (ant _ _ _ (by simp;omega)) (ant _ _ _ (by simp;omega))) (fun hHeld=>?_)
  clear hK K
  simp only [ane,ang,anf,Act.put,anh,ani,anj,World.size_alloc,World.size_drew]
  refine ai.au (rs:=[17]) (by kernel_rfl) (by simp) ?_
  refine (ai.ah.cons rfl (fun K hK=>?_) ai.ah.nil)
  refine step_append_lies _ rfl _ _ 69 rfl base 71 i0 _ 5 64 Tryz.underlying69 hi hz0 hz1 hz2 rfl (by decide) (.slice A n c) n (aO qs) rfl (own_below hKq.out ((anl wq.heap.size wq).drew.trans ((anl wq.heap.size wq.drew).alloc (ank _) (.cells #[.int .i64 k,.string x,.int .i64 xn,.slice A0 n0 c0,.int .i64 a] 71)))) ⟨wq.heap.size,0,none⟩ 1 1 [.int .i64 k,.string x,.int .i64 xn,.slice A0 n0 c0,.int .i64 a] rfl rfl (World.news_of_block (anm wq.drew (.cells #[.int .i64 k,.string x,.int .i64 xn,.slice A0 n0 c0,.int .i64 a] 71))) ?a0 (by decide) ?a1 ?a2 ?a3 _ rfl ?_
  case a0=>(intro u hu;simp only [List.mem_cons,List.not_mem_nil,or_false] at hu;rcases hu with rfl | rfl | rfl | rfl | rfl <;> rfl)
  case a1=>(unfold maxLen;omega)
  case a2=>omega
  case a3=>(simp;omega)
  intro g5 cap5 w5 hown5 bI gY yU
  have hkeep:∀ b,b<wq.heap.size→(∀ ad,A=some ad→ad.block≠b)→w5.heap[b]?=wq.heap[b]?:=fun b hb hA=>(bI.block b (by simp;omega) (fun e=>by cases A with | none=>simp [Value.ownBlock] at e | some ad=>exact hA ad rfl (by simpa [Value.ownBlock] using e.symm))).trans (ant wq.drew _ b hb)
  have hk1:=hkeep g (by omega) (fun ad e=>(UB ad e).1)
  have hk2:=hkeep gO (by omega) (fun ad e=>(UB ad e).2)
  have hk3:=hkeep w.heap.size (by omega) (fun ad e e2=>by have:=(hKl.out ad e);omega)
  have HS5:=anc (And.intro hk1 (And.intro hk2 hk3))
  have KL:Hid (Aside (fun b=>∃ ad,A=some ad∧ad.block=b) w w5):=anc (((Aside.of_below qZ.out).drew.alloc _).grown bI (fun b e _=>by cases A with | none=>simp [Value.ownBlock] at e | some ad=>exact ⟨ad,rfl,by simpa [Value.ownBlock] using e⟩))
  have qx:Hid ((∃ ad,A=some ad∧ad.block=g5)∨w.heap.size≤g5):=anc (gY.elim (fun e=>Or.inl (by cases A with | none=>simp [Value.ownBlock] at e | some ad=>exact ⟨ad,rfl,by simpa [Value.ownBlock] using e⟩)) (fun e=>Or.inr (by simp at e;omega)))
  have fV:=anc hown5
  have Ru:=anc yU
  have UC:Hid (w5.heap[gO]?=some (.cells cur 71 (0,0))):=anc (hk2.trans (hOq.out.trans HO.out))
  have hne5:g5≠gO:=qx.out.elim (fun h=>h.elim fun ad e2=>by have:=(UB ad e2.1).2;omega) (fun h=>by omega)
  have hfz:w5.frozen? ⟨gO,m*5+3,none⟩=false:=(World.frozen?_of_block hk2).trans hfO.out
  have hcO:w5.cell? ⟨gO,m*5+3,none⟩=some (.slice A n c):=(anw hk2).trans ZM.out
  clear hown5 bI gY yU hkeep
  refine hK.out _ _ (lZ.out _ hk1 hk2 hk3) (fun hHeld=>?_)
  clear hK K hk1 hk2 hk3
  simp only [ane,ang,anf,Act.put,anh,ani,anj]
  refine ai.ae (i:=18) (C:=[18,19,20]) (v:=?aiC) rfl (by kernel_rfl) (by kernel_rfl) (by kernel_rfl) (by kernel_rfl) (fun _ _ _ h=>h) (Or.inl ⟨by rfl,?ZV⟩) (by assumption) ?_
  case ZV=>(intro w1 hSw;(try dsimp only at hSw);go_simp;try with_reducible rfl)
  simp only [ane,ang,anf,Act.put,anh,ani,anj]
  refine ai.ae (i:=19) (C:=[19,20]) (v:=?aiD) rfl (by kernel_rfl) (by kernel_rfl) (by kernel_rfl) (by kernel_rfl) (fun _ _ _ h=>h) (Or.inl ⟨by rfl,?ZW⟩) (by assumption) ?_
  case ZW=>(intro w1 hSw;(try dsimp only at hSw);go_simp;try with_reducible rfl)
  simp only [ane,ang,anf,Act.put,anh,ani,anj]
  refine ai.au (rs:=[20]) (by kernel_rfl) (by simp) ?_
  refine ai.ah.last rfl (fun K hK=>?_)
  simp only [ane,ang,anf]
  go_simp
  refine hK.out _ _ ?_
  clear hK K
  refine ai.dw (by kernel_rfl) ?_ _
  have uN:=anc (G8 (x:=((.mk k x xn l a:T),A0,c0)) (o:=m*5+3) KL.out qx.out (by rw [HN0.out] at fV;exact fV.out) UC.out hne5)
  clear KL qx fV Ru UC hfz hcO lZ HS5
  go_wp2_with fail
  first
   | refine bodyPost_end (results_none rfl _ _ _) rfl ?_
   | refine ano (results_none rfl _ _ _) rfl ?_
  exact ⟨rfl,uN.out⟩
 ·go_upto_region 4 with (fail)
  refine ai.dU (fun w'=>w'.cell? ⟨g,1,none⟩=some (.slice (some ⟨gO,0,none⟩) (m+1) Np)∧w'.cell? ⟨gO,m*5+3,none⟩=some (.slice A n c)∧w'.cell? ⟨w.heap.size,0,none⟩=some (.int .i64 k)∧w'.cell? ⟨w.heap.size,1,none⟩=some (.string x)∧w'.cell? ⟨w.heap.size,2,none⟩=some (.int .i64 xn)∧w'.cell? ⟨w.heap.size,3,none⟩=some (.slice A0 n0 c0)∧w'.cell? ⟨w.heap.size,4,none⟩=some (.int .i64 a)) 21 (by kernel_rfl) (lZ.out _ rfl rfl rfl) (fun hHeld=>?_)
  refine ai.ae (i:=0) (C:=[0,21]) (v:=?ak7) rfl (by kernel_rfl) (by kernel_rfl) (by kernel_rfl) (by kernel_rfl) (fun _ _ _ h=>h) (Or.inl ⟨by rfl,?ac7⟩) (by assumption) ?_
  case ac7=>(intro w1 hSw;(try dsimp only at hSw);go_simp;try with_reducible rfl)
  simp only [ane,anf,Act.put,anh,ani,anj]
  refine ai.ae (i:=1) (C:=[1,21]) (v:=?ak8) rfl (by kernel_rfl) (by kernel_rfl) (by kernel_rfl) (by kernel_rfl) (fun _ _ _ h=>h) (Or.inl ⟨by rfl,?ac8⟩) (by assumption) ?_
  case ac8=>(intro w1 hSw;(try dsimp only at hSw);go_simp;try with_reducible rfl)
  simp only [ane,ang,anf,Act.put,anh,ani,anj]
  refine ai.ae (i:=2) (C:=[2,21]) (v:=?ak9) rfl (by kernel_rfl) (by kernel_rfl) (by kernel_rfl) (by kernel_rfl) (fun _ _ _ h=>h) (Or.inl ⟨by rfl,?ac9⟩) (by assumption) ?_
  case ac9=>(intro w1 hSw;(try dsimp only at hSw);go_simp;try with_reducible rfl)
  simp only [ane,ang,anf,Act.put,anh,ani,anj]
  refine ai.ae (i:=3) (C:=[3,21]) (v:=?ala) rfl (by kernel_rfl) (by kernel_rfl) (by kernel_rfl) (by kernel_rfl) (fun _ _ _ h=>h) (Or.inl ⟨by rfl,?ada⟩) (by assumption) ?_
  case ada=>(intro w1 hSw;(try dsimp only at hSw);go_simp;try with_reducible rfl)
  simp only [ane,ang,anf,Act.put,anh,ani,anj]
  refine ai.ae (i:=4) (C:=[4,21]) (v:=?alb) rfl (by kernel_rfl) (by kernel_rfl) (by kernel_rfl) (by kernel_rfl) (fun _ _ _ h=>h) (Or.inl ⟨by rfl,?adb⟩) (by assumption) ?_
  case adb=>(intro w1 hSw;(try dsimp only at hSw);go_simp;try with_reducible rfl)
  simp only [ane,ang,anf,Act.put,anh,ani,anj]
  refine ai.ae (i:=5) (C:=[5,21]) (v:=?alc) rfl (by kernel_rfl) (by kernel_rfl) (by kernel_rfl) (by kernel_rfl) (fun _ _ _ h=>h) (Or.inl ⟨by rfl,?ade⟩) (by assumption) ?_
  case ade=>(intro w1 hSw;(try dsimp only at hSw);go_simp;try with_reducible rfl)
  simp only [ane,ang,anf,Act.put,anh,ani,anj]
  refine ai.ae (i:=6) (C:=[6,21]) (v:=?ald) rfl (by kernel_rfl) (by kernel_rfl) (by kernel_rfl) (by kernel_rfl) (fun _ _ _ h=>h) (Or.inl ⟨by rfl,?adf⟩) (by assumption) ?_
  case adf=>(intro w1 hSw;(try dsimp only at hSw);go_simp;try with_reducible rfl)
  simp only [ane,ang,anf,Act.put,anh,ani,anj]
  refine ai.ae (i:=7) (C:=[7,21]) (v:=?ale) rfl (by kernel_rfl) (by kernel_rfl) (by kernel_rfl) (by kernel_rfl) (fun _ _ _ h=>h) (Or.inl ⟨by rfl,?adg⟩) (by assumption) ?_
  case adg=>(intro w1 hSw;(try dsimp only at hSw);go_simp;try with_reducible rfl)
  simp only [ane,ang,anf,Act.put,anh,ani,anj]
  refine ai.ae (i:=8) (C:=[8,21]) (v:=?alf) rfl (by kernel_rfl) (by kernel_rfl) (by kernel_rfl) (by kernel_rfl) (fun _ _ _ h=>h) (Or.inl ⟨by rfl,?adh⟩) (by assumption) ?_
  case adh=>(intro w1 hSw;(try dsimp only at hSw);go_simp;try with_reducible rfl)
  simp only [ane,ang,anf,Act.put,anh,ani,anj]
  refine ai.ae (i:=9) (C:=[9,21]) (v:=?aiE) rfl (by kernel_rfl) (by kernel_rfl) (by kernel_rfl) (by kernel_rfl) (fun _ _ _ h=>h) (Or.inl ⟨by rfl,?ZX⟩) (by assumption) ?_
  case ZX=>(intro w1 hSw;(try dsimp only at hSw);go_simp;try with_reducible rfl)
  simp only [ane,ang,anf,Act.put,anh,ani,anj]
  refine ai.ae (i:=10) (C:=[10,21]) (v:=?aiF) rfl (by kernel_rfl) (by kernel_rfl) (by kernel_rfl) (by kernel_rfl) (fun _ _ _ h=>h) (Or.inl ⟨by rfl,?ZY⟩) (by assumption) ?_
  case ZY=>(intro w1 hSw;(try dsimp only at hSw);go_simp;try with_reducible rfl)
  simp only [ane,ang,anf,Act.put,anh,ani,anj]
  refine ai.ae (i:=11) (C:=[11,21]) (v:=?aiG) rfl (by kernel_rfl) (by kernel_rfl) (by kernel_rfl) (by kernel_rfl) (fun _ _ _ h=>h) (Or.inl ⟨by rfl,?ZZ⟩) (by assumption) ?_
  case ZZ=>(intro w1 hSw;(try dsimp only at hSw);go_simp;try with_reducible rfl)
  simp only [ane,ang,anf,Act.put,anh,ani,anj]
  refine ai.ae (i:=12) (C:=[12,21]) (v:=?aiH) rfl (by kernel_rfl) (by kernel_rfl) (by kernel_rfl) (by kernel_rfl) (fun _ _ _ h=>h) (Or.inl ⟨by rfl,?Z4⟩) (by assumption) ?_
  case Z4=>(intro w1 hSw;(try dsimp only at hSw);go_simp;try with_reducible rfl)
  simp only [ane,ang,anf,Act.put,anh,ani,anj]
  refine ai.ae (i:=13) (C:=[13,21]) (v:=?aiI) rfl (by kernel_rfl) (by kernel_rfl) (by kernel_rfl) (by kernel_rfl) (fun _ _ _ h=>h) (Or.inl ⟨by rfl,?Z5⟩) (by assumption) ?_
  case Z5=>(intro w1 hSw;(try dsimp only at hSw);go_simp;try with_reducible rfl)
  simp only [ane,ang,anf,Act.put,anh,ani,anj]
  refine ai.ae (i:=14) (C:=[14,21]) (v:=?aiJ) rfl (by kernel_rfl) (by kernel_rfl) (by kernel_rfl) (by kernel_rfl) (fun _ _ _ h=>h) (Or.inl ⟨by rfl,?Z7⟩) (by assumption) ?_
  case Z7=>(intro w1 hSw;(try dsimp only at hSw);go_simp;try with_reducible rfl)
  simp only [ane,ang,anf,Act.put,anh,ani,anj]
  refine ai.ae (i:=15) (C:=[15,21]) (v:=?aiK) rfl (by kernel_rfl) (by kernel_rfl) (by kernel_rfl) (by kernel_rfl) (fun _ _ _ h=>h) (Or.inl ⟨by rfl,?Z8⟩) (by assumption) ?_
  case Z8=>(intro w1 hSw;(try dsimp only at hSw);go_simp;try with_reducible rfl)
  simp only [ane,ang,anf,Act.put,anh,ani,anj]
  refine ai.ae (i:=16) (C:=[16,21]) (v:=?aiL) rfl (by kernel_rfl) (by kernel_rfl) (by kernel_rfl) (by kernel_rfl) (fun _ _ _ h=>h) (Or.inl ⟨by rfl,?Z9⟩) (by assumption) ?_
  case Z9=>(intro w1 hSw;(try dsimp only at hSw);go_simp;try with_reducible rfl)
  simp only [ane,ang,anf,Act.put,anh,ani,anj]
  refine ai.au (rs:=[17]) (by kernel_rfl) (by simp) ?_
  refine (ai.ah.cons rfl (fun K hK=>?_) ai.ah.nil)
  refine sU _ rfl rfl ?_
  refine hK.out _ _ (lZ.out _ (ant _ _ _ (by simp;omega)) (ant _ _ _ (by simp;omega)) (ant _ _ _ (by simp;omega))) (fun hHeld=>?_)
  clear hK K
  simp only [ane,ang,anf,Act.put,anh,ani,anj,World.size_alloc,World.size_drew]
  refine ai.au (rs:=[18]) (by kernel_rfl) (by simp) ?_
  refine (ai.ah.cons rfl (fun K hK=>?_) ai.ah.nil)
  refine step_append_lies _ rfl _ _ 69 rfl base 71 i0 _ 5 64 Tryz.underlying69 hi hz0 hz1 hz2 rfl (by decide) (.slice A n c) n (aO qs) rfl (own_below hKq.out ((anl wq.heap.size wq).drew.trans ((anl wq.heap.size wq.drew).alloc (ank _) (.cells #[.int .i64 0,.string ⟨#[]⟩,.int .i64 0,.slice none 0 0,.int .i64 0] 71)))) ⟨wq.heap.size,0,none⟩ 1 1 [.int .i64 0,.string ⟨#[]⟩,.int .i64 0,.slice none 0 0,.int .i64 0] rfl rfl (World.news_of_block (anm wq.drew (.cells #[.int .i64 0,.string ⟨#[]⟩,.int .i64 0,.slice none 0 0,.int .i64 0] 71))) ?a0 (by decide) ?a1 ?a2 ?a3 _ rfl ?_
  case a0=>(intro u hu;simp only [List.mem_cons,List.not_mem_nil,or_false] at hu;rcases hu with rfl | rfl | rfl | rfl | rfl <;> rfl)
  case a1=>(unfold maxLen;omega)
  case a2=>omega
  case a3=>(simp;omega)
  intro g5 cap5 w5 hown5 bI gY yU
  have hkeep:∀ b,b<wq.heap.size→(∀ ad,A=some ad→ad.block≠b)→w5.heap[b]?=wq.heap[b]?:=fun b hb hA=>(bI.block b (by simp;omega) (fun e=>by cases A with | none=>simp [Value.ownBlock] at e | some ad=>exact hA ad rfl (by simpa [Value.ownBlock] using e.symm))).trans (ant wq.drew _ b hb)
  have hk1:=hkeep g (by omega) (fun ad e=>(UB ad e).1)
  have hk2:=hkeep gO (by omega) (fun ad e=>(UB ad e).2)
  have hk3:=hkeep w.heap.size (by omega) (fun ad e e2=>by have:=(hKl.out ad e);omega)
  have HS5:=anc (And.intro hk1 (And.intro hk2 hk3))
  have KL:Hid (Aside (fun b=>∃ ad,A=some ad∧ad.block=b) w w5):=anc (((Aside.of_below qZ.out).drew.alloc _).grown bI (fun b e _=>by cases A with | none=>simp [Value.ownBlock] at e | some ad=>exact ⟨ad,rfl,by simpa [Value.ownBlock] using e⟩))
  have qx:Hid ((∃ ad,A=some ad∧ad.block=g5)∨w.heap.size≤g5):=anc (gY.elim (fun e=>Or.inl (by cases A with | none=>simp [Value.ownBlock] at e | some ad=>exact ⟨ad,rfl,by simpa [Value.ownBlock] using e⟩)) (fun e=>Or.inr (by simp at e;omega)))
  have fV:=anc hown5
  have Ru:=anc yU
  have UC:Hid (w5.heap[gO]?=some (.cells cur 71 (0,0))):=anc (hk2.trans (hOq.out.trans HO.out))
  have hne5:g5≠gO:=qx.out.elim (fun h=>h.elim fun ad e2=>by have:=(UB ad e2.1).2;omega) (fun h=>by omega)
  have hfz:w5.frozen? ⟨gO,m*5+3,none⟩=false:=(World.frozen?_of_block hk2).trans hfO.out
  have hcO:w5.cell? ⟨gO,m*5+3,none⟩=some (.slice A n c):=(anw hk2).trans ZM.out
  clear hown5 bI gY yU hkeep
  refine hK.out _ _ (lZ.out _ hk1 hk2 hk3) (fun hHeld=>?_)
  clear hK K hk1 hk2 hk3
  simp only [ane,ang,anf,Act.put,anh,ani,anj]
  refine ai.ae (i:=19) (C:=[19,20,21]) (v:=?aiM) rfl (by kernel_rfl) (by kernel_rfl) (by kernel_rfl) (by kernel_rfl) (fun _ _ _ h=>h) (Or.inl ⟨by rfl,?aab⟩) (by assumption) ?_
  case aab=>(intro w1 hSw;(try dsimp only at hSw);go_simp;try with_reducible rfl)
  simp only [ane,ang,anf,Act.put,anh,ani,anj]
  refine ai.ae (i:=20) (C:=[20,21]) (v:=?aiN) rfl (by kernel_rfl) (by kernel_rfl) (by kernel_rfl) (by kernel_rfl) (fun _ _ _ h=>h) (Or.inl ⟨by rfl,?aac⟩) (by assumption) ?_
  case aac=>(intro w1 hSw;(try dsimp only at hSw);go_simp;try with_reducible rfl)
  simp only [ane,ang,anf,Act.put,anh,ani,anj]
  refine ai.au (rs:=[21]) (by kernel_rfl) (by simp) ?_
  refine ai.ah.last rfl (fun K hK=>?_)
  simp only [ane,ang,anf]
  go_simp
  refine hK.out _ _ ?_
  clear hK K
  refine ai.dw (by kernel_rfl) ?_ _
  have uN:=anc (sS (x:=((.mk k x xn l a:T),A0,c0)) (o:=m*5+3) KL.out qx.out fV.out UC.out hne5 (Bl hKq.out))
  simp only [T.k,T.s,T.n,T.kids,T.at_] at uN
  rw [←HN0.out] at uN
  have hq:=Bl hKq.out
  have hown6:=uF fV.out (ann w5 ⟨gO,m*5+3,none⟩ (.slice (some ⟨g5,0,none⟩) (n+1) cap5) g5 hne5)
  have hzc:∀ i,i<5→(aO qs++[.int .i64 0,.string ⟨#[]⟩,.int .i64 0,.slice none 0 0,.int .i64 0])[n*5+i]?=([.int .i64 0,.string ⟨#[]⟩,.int .i64 0,.slice none 0 0,.int .i64 0]:List Value)[i]?:=fun i hi=>by
   rw [List.getElem?_append_right (by rw [fF,hq];omega),fF,hq,show n*5+i-n*5=i by omega]
  have QL:=fun j=>hown6.frozenAt j
  have d0:=(hown6.cellAt (n*5) (by omega)).trans (hzc 0 (by decide))
  have d1:=(hown6.cellAt (n*5+1) (by omega)).trans (hzc 1 (by decide))
  have d2:=(hown6.cellAt (n*5+2) (by omega)).trans (hzc 2 (by decide))
  have d3:=(hown6.cellAt (n*5+3) (by omega)).trans (hzc 3 (by decide))
  have d4:=(hown6.cellAt (n*5+4) (by omega)).trans (hzc 4 (by decide))
  obtain ⟨w6,G9⟩:∃ w6,w6=w5.setCell ⟨gO,m*5+3,none⟩ (.slice (some ⟨g5,0,none⟩) (n+1) cap5):=⟨_,rfl⟩
  rw [←G9] at uN d0 d1 d2 d3 d4 QL ⊢
  have r0:=QL (n*5)
  have r1:=QL (n*5+1)
  have r2:=QL (n*5+2)
  have r3:=QL (n*5+3)
  have r4:=QL (n*5+4)
  simp only [List.getElem?_cons_zero,List.getElem?_cons_succ] at d0 d1 d2 d3 d4
  have en:IntKind.i64.wrap (n:Int)=(n:Int):=by unfold IntKind.wrap;simp [IntKind.bits,IntKind.signed];omega
  have oL:(n:Int)<(n:Int)+1:=by omega
  clear KL qx fV Ru UC hfz hcO lZ HS5 G9 hown6 hzc QL hq
  go_wp2_with fail
  first
   | refine bodyPost_end (results_none rfl _ _ _) rfl ?_
   | refine ano (results_none rfl _ _ _) rfl ?_
  exact ⟨rfl,uN.out⟩
theorem Du {A:Option Addr} {n c b:Nat} (h:∀ ad:Addr,A=some ad→ad.block≠b)(e:some b=(Value.slice A n c).ownBlock):False:=by
 cases A with
 | none=>simp [Value.ownBlock] at e
 | some ad=>exact h ad rfl (by simpa [Value.ownBlock] using e.symm)
theorem mF {A:Option Addr} {n c b:Nat} (e:(Value.slice A n c).ownBlock=some b):∃ ad:Addr,A=some ad∧ad.block=b:=by
 cases A with
 | none=>simp [Value.ownBlock] at e
 | some ad=>exact ⟨ad,rfl,by simpa [Value.ownBlock] using e⟩
theorem UD (g cB base:Nat)(B:Option Addr)(s:ByteArray)(k xn a:Int)(x:ByteArray)(l:List T)(A0:Option Addr)(n0 c0:Nat)(w:World)
 (hg:w.heap[g]?=some (.cells #[.string s,.slice B 0 cB,.slice none 0 0] 102 (0,0)))(hbase:base≤w.heap.size)(hn0:n0=l.length) :
 Calls Tryz.prog 54 #[.pointer (some ⟨g,0,none⟩),.agg #[.int .i64 k,.string x,.int .i64 xn,.slice A0 n0 c0,.int .i64 a]] w fun e w'=>e=.returned (.tuple #[])∧vY 102 w w' base g 2 #[.string s,.slice B 0 cB,.slice none 0 0] none 0 [] ((.mk k x xn l a:T),A0,c0):=by
 have g1:w.cell? ⟨g,1,none⟩=some (.slice B 0 cB):=by simp [World.cell?,hg]
 have hgl:g<w.heap.size:=(Array.getElem?_eq_some_iff.1 hg).1
 obtain ⟨w1,aK⟩:∃ w1,w1=w.alloc (.cells #[.int .i64 k,.string x,.int .i64 xn,.slice A0 n0 c0,.int .i64 a] 71):=⟨_,rfl⟩
 have hb1:Below w.heap.size w w1:=by rw [aK];exact (anl _ _).alloc (ank _) _
 have hs1:w1.heap.size=w.heap.size+1:=by rw [aK];simp
 have hx1:w1.heap[w.heap.size]?=some (.cells #[.int .i64 k,.string x,.int .i64 xn,.slice A0 n0 c0,.int .i64 a] 71 (0,0)):=by rw [aK];exact anm w _
 have hgq:w1.heap[g]?=some (.cells #[.string s,.slice B 0 cB,.slice none 0 0] 102 (0,0)):=(hb1.block g hgl).trans hg
 have hq2:w1.cell? ⟨g,2,none⟩=some (.slice none 0 0):=by simp [World.cell?,hgq]
 obtain ⟨⟨x0,x1,x2,x3,x4⟩,_,_,_,_,_⟩:=ay hx1
 have lZ:Hid (∀ w':World,w'.heap[g]?=w1.heap[g]?→w'.heap[w.heap.size]?=w1.heap[w.heap.size]?→w'.cell? ⟨g,2,none⟩=some (.slice none 0 0)∧w'.cell? ⟨w.heap.size,0,none⟩=some (.int .i64 k)∧w'.cell? ⟨w.heap.size,1,none⟩=some (.string x)∧w'.cell? ⟨w.heap.size,2,none⟩=some (.int .i64 xn)∧w'.cell? ⟨w.heap.size,3,none⟩=some (.slice A0 n0 c0)∧w'.cell? ⟨w.heap.size,4,none⟩=some (.int .i64 a)):=anc (fun w' h1 h3=>⟨(anw h1).trans hq2,(anw h3).trans x0,(anw h3).trans x1,(anw h3).trans x2,(anw h3).trans x3,(anw h3).trans x4⟩)
 have HW1:=anc aK
 have qZ:=anc hb1
 have HGQ:=anc hgq
 have HN0:=anc hn0
 have HKQ:Hid (w1.ownsRow base 71 5 (.slice none 0 0) 0 (aO [])):=anc ⟨rfl,.inl ⟨rfl,rfl⟩⟩
 have UB:∀ ad:Addr,(none:Option Addr)=some ad→ad.block≠g:=fun ad e=>by cases e
 obtain ⟨i0,hi,hz0,hz1,hz2⟩:=info_parts mV
 clear hg aK hx1 hb1 hn0 hgq hq2 x0 x1 x2 x3 x4
 go_enter Tryz.func54,Tryz.ntmps54
 go_upto_region 7 with (fail)
 rw [←HW1.out]
 refine aj.dU (fun w'=>w'.cell? ⟨g,2,none⟩=some (.slice none 0 0)∧w'.cell? ⟨w.heap.size,0,none⟩=some (.int .i64 k)∧w'.cell? ⟨w.heap.size,1,none⟩=some (.string x)∧w'.cell? ⟨w.heap.size,2,none⟩=some (.int .i64 xn)∧w'.cell? ⟨w.heap.size,3,none⟩=some (.slice A0 n0 c0)∧w'.cell? ⟨w.heap.size,4,none⟩=some (.int .i64 a)) [8,9,10,11,12] (by kernel_rfl) (lZ.out _ rfl rfl) (fun hHeld=>?_)
 refine aj.ae (i:=0) (C:=[0,8,9,10,11,12]) (v:=?alg) rfl (by kernel_rfl) (by kernel_rfl) (by kernel_rfl) (by kernel_rfl) (fun _ _ _ h=>h) (Or.inl ⟨by rfl,?adi⟩) (by assumption) ?_
 case adi=>(intro w1 hSw;(try dsimp only at hSw);go_simp;try with_reducible rfl)
 simp only [ane,anf,Act.put,anh,ani,anj]
 refine aj.ae (i:=1) (C:=[1,8,9,10,11,12]) (v:=?alh) rfl (by kernel_rfl) (by kernel_rfl) (by kernel_rfl) (by kernel_rfl) (fun _ _ _ h=>h) (Or.inl ⟨by rfl,?adk⟩) (by assumption) ?_
 case adk=>(intro w1 hSw;(try dsimp only at hSw);go_simp;try with_reducible rfl)
 simp only [ane,ang,anf,Act.put,anh,ani,anj]
 refine aj.ae (i:=2) (C:=[2,8,9,10,11,12]) (v:=?ali) rfl (by kernel_rfl) (by kernel_rfl) (by kernel_rfl) (by kernel_rfl) (fun _ _ _ h=>h) (Or.inl ⟨by rfl,?adl⟩) (by assumption) ?_
 case adl=>(intro w1 hSw;(try dsimp only at hSw);go_simp;try with_reducible rfl)
 simp only [ane,ang,anf,Act.put,anh,ani,anj]
 refine aj.ae (i:=3) (C:=[3,8,9,10,11,12]) (v:=?alj) rfl (by kernel_rfl) (by kernel_rfl) (by kernel_rfl) (by kernel_rfl) (fun _ _ _ h=>h) (Or.inl ⟨by rfl,?adm⟩) (by assumption) ?_
 case adm=>(intro w1 hSw;(try dsimp only at hSw);go_simp;try with_reducible rfl)
 simp only [ane,ang,anf,Act.put,anh,ani,anj]
 refine aj.ae (i:=4) (C:=[4,8,9,10,11,12]) (v:=?alk) rfl (by kernel_rfl) (by kernel_rfl) (by kernel_rfl) (by kernel_rfl) (fun _ _ _ h=>h) (Or.inl ⟨by rfl,?adn⟩) (by assumption) ?_
 case adn=>(intro w1 hSw;(try dsimp only at hSw);go_simp;try with_reducible rfl)
 simp only [ane,ang,anf,Act.put,anh,ani,anj]
 refine aj.ae (i:=5) (C:=[5,8,9,10,11,12]) (v:=?alm) rfl (by kernel_rfl) (by kernel_rfl) (by kernel_rfl) (by kernel_rfl) (fun _ _ _ h=>h) (Or.inl ⟨by rfl,?ado⟩) (by assumption) ?_
 case ado=>(intro w1 hSw;(try dsimp only at hSw);go_simp;try with_reducible rfl)
 simp only [ane,ang,anf,Act.put,anh,ani,anj]
 refine aj.au (rs:=[6]) (by kernel_rfl) (by simp) ?_
 refine (aj.ah.cons rfl (fun K hK=>?_) aj.ah.nil)
 refine sU _ rfl rfl ?_
 refine hK.out _ _ (lZ.out _ (ant _ _ _ (by simp;omega)) (ant _ _ _ (by simp;omega))) (fun hHeld=>?_)
 clear hK K
 simp only [ane,ang,anf,Act.put,anh,ani,anj,World.size_alloc,World.size_drew]
 refine aj.au (rs:=[7]) (by kernel_rfl) (by simp) ?_
 refine (aj.ah.cons rfl (fun K hK=>?_) aj.ah.nil)
 refine step_append_lies _ rfl _ _ 69 rfl base 71 i0 _ 5 64 Tryz.underlying69 hi hz0 hz1 hz2 rfl (by decide) (.slice none 0 0) 0 (aO []) rfl (own_below HKQ.out ((anl w1.heap.size w1).drew.trans ((anl w1.heap.size w1.drew).alloc (ank _) (.cells #[.int .i64 0,.string ⟨#[]⟩,.int .i64 0,.slice none 0 0,.int .i64 0] 71)))) ⟨w1.heap.size,0,none⟩ 1 1 [.int .i64 0,.string ⟨#[]⟩,.int .i64 0,.slice none 0 0,.int .i64 0] rfl rfl (World.news_of_block (anm w1.drew (.cells #[.int .i64 0,.string ⟨#[]⟩,.int .i64 0,.slice none 0 0,.int .i64 0] 71))) ?a0 (by decide) ?a1 ?a2 ?a3 _ rfl ?_
 case a0=>(intro u hu;simp only [List.mem_cons,List.not_mem_nil,or_false] at hu;rcases hu with rfl | rfl | rfl | rfl | rfl <;> rfl)
 case a1=>(unfold maxLen;omega)
 case a2=>omega
 case a3=>(simp;omega)
 intro g5 cap5 w5 hown5 bI gY yU
 have hkeep:∀ b,b<w1.heap.size→(∀ ad:Addr,(none:Option Addr)=some ad→ad.block≠b)→w5.heap[b]?=w1.heap[b]?:=fun b hb hA=>(bI.block b (by simp;omega) (fun e=>Du hA e)).trans (ant w1.drew _ b hb)
 have hk1:=hkeep g (by omega) (fun ad e=>by cases e)
 have hk2:=hkeep w.heap.size (by omega) (fun ad e=>by cases e)
 have KL:Hid (Aside (fun b=>∃ ad:Addr,(none:Option Addr)=some ad∧ad.block=b) w w5):=anc (((Aside.of_below qZ.out).drew.alloc _).grown bI (fun b e _=>mF e))
 have qx:Hid ((∃ ad:Addr,(none:Option Addr)=some ad∧ad.block=g5)∨w.heap.size≤g5):=anc (gY.elim (fun e=>Or.inl (mF e)) (fun e=>Or.inr (by simp at e;omega)))
 have hg5:Hid (w5.heap[g]?=some (.cells #[.string s,.slice B 0 cB,.slice none 0 0] 102 (0,0))):=anc (hk1.trans HGQ.out)
 have hne5:g5≠g:=qx.out.elim (fun h=>h.elim fun ad e2=>by have:=UB ad e2.1;omega) (fun h=>by omega)
 have fV:=anc hown5
 have hq:=Bl (n:=0) (qs:=[]) HKQ.out
 have hzc:∀ i,i<5→(aO []++[.int .i64 0,.string ⟨#[]⟩,.int .i64 0,.slice none 0 0,.int .i64 0])[0*5+i]?=([.int .i64 0,.string ⟨#[]⟩,.int .i64 0,.slice none 0 0,.int .i64 0]:List Value)[i]?:=fun i hi=>by rw [List.getElem?_append_right (by rw [fF,hq];omega),fF,hq,show 0*5+i-0*5=i by omega]
 have hrc:w5.cell? ⟨g,2,none⟩=some (.slice none 0 0):=by simp [World.cell?,hg5.out]
 have hrf:w5.frozen? ⟨g,2,none⟩=false:=by simp [World.frozen?,hg5.out]
 have d0:=(hown5.cellAt (0*5) (by omega)).trans (hzc 0 (by decide))
 have r0:=hown5.frozenAt (0*5)
 have d1:=(hown5.cellAt (0*5+1) (by omega)).trans (hzc 1 (by decide))
 have r1:=hown5.frozenAt (0*5+1)
 have d2:=(hown5.cellAt (0*5+2) (by omega)).trans (hzc 2 (by decide))
 have r2:=hown5.frozenAt (0*5+2)
 have d3:=(hown5.cellAt (0*5+3) (by omega)).trans (hzc 3 (by decide))
 have r3:=hown5.frozenAt (0*5+3)
 have d4:=(hown5.cellAt (0*5+4) (by omega)).trans (hzc 4 (by decide))
 have r4:=hown5.frozenAt (0*5+4)
 simp only [List.getElem?_cons_zero,List.getElem?_cons_succ] at d0 d1 d2 d3 d4
 have Xk:(w5.setCell ⟨g,2,none⟩ (.slice (some ⟨g5,0,none⟩) (0+1) cap5)).cell? ⟨g5,0*5,none⟩=_:=(anw (ann w5 ⟨g,2,none⟩ (.slice (some ⟨g5,0,none⟩) (0+1) cap5) g5 hne5)).trans d0
 have Xl:(w5.setCell ⟨g,2,none⟩ (.slice (some ⟨g5,0,none⟩) (0+1) cap5)).frozen? ⟨g5,0*5,none⟩=false:=(World.frozen?_of_block (ann w5 ⟨g,2,none⟩ (.slice (some ⟨g5,0,none⟩) (0+1) cap5) g5 hne5)).trans r0
 have dd1:(w5.setCell ⟨g,2,none⟩ (.slice (some ⟨g5,0,none⟩) (0+1) cap5)).cell? ⟨g5,0*5+1,none⟩=_:=(anw (ann w5 ⟨g,2,none⟩ (.slice (some ⟨g5,0,none⟩) (0+1) cap5) g5 hne5)).trans d1
 have Xm:(w5.setCell ⟨g,2,none⟩ (.slice (some ⟨g5,0,none⟩) (0+1) cap5)).frozen? ⟨g5,0*5+1,none⟩=false:=(World.frozen?_of_block (ann w5 ⟨g,2,none⟩ (.slice (some ⟨g5,0,none⟩) (0+1) cap5) g5 hne5)).trans r1
 have Xn:(w5.setCell ⟨g,2,none⟩ (.slice (some ⟨g5,0,none⟩) (0+1) cap5)).cell? ⟨g5,0*5+2,none⟩=_:=(anw (ann w5 ⟨g,2,none⟩ (.slice (some ⟨g5,0,none⟩) (0+1) cap5) g5 hne5)).trans d2
 have Xo:(w5.setCell ⟨g,2,none⟩ (.slice (some ⟨g5,0,none⟩) (0+1) cap5)).frozen? ⟨g5,0*5+2,none⟩=false:=(World.frozen?_of_block (ann w5 ⟨g,2,none⟩ (.slice (some ⟨g5,0,none⟩) (0+1) cap5) g5 hne5)).trans r2
 have Xp:(w5.setCell ⟨g,2,none⟩ (.slice (some ⟨g5,0,none⟩) (0+1) cap5)).cell? ⟨g5,0*5+3,none⟩=_:=(anw (ann w5 ⟨g,2,none⟩ (.slice (some ⟨g5,0,none⟩) (0+1) cap5) g5 hne5)).trans d3
 have Xq:(w5.setCell ⟨g,2,none⟩ (.slice (some ⟨g5,0,none⟩) (0+1) cap5)).frozen? ⟨g5,0*5+3,none⟩=false:=(World.frozen?_of_block (ann w5 ⟨g,2,none⟩ (.slice (some ⟨g5,0,none⟩) (0+1) cap5) g5 hne5)).trans r3
 have Xr:(w5.setCell ⟨g,2,none⟩ (.slice (some ⟨g5,0,none⟩) (0+1) cap5)).cell? ⟨g5,0*5+4,none⟩=_:=(anw (ann w5 ⟨g,2,none⟩ (.slice (some ⟨g5,0,none⟩) (0+1) cap5) g5 hne5)).trans d4
 have Xt:(w5.setCell ⟨g,2,none⟩ (.slice (some ⟨g5,0,none⟩) (0+1) cap5)).frozen? ⟨g5,0*5+4,none⟩=false:=(World.frozen?_of_block (ann w5 ⟨g,2,none⟩ (.slice (some ⟨g5,0,none⟩) (0+1) cap5) g5 hne5)).trans r4
 have hpg:(((((w5.setCell ⟨g5,0*5,none⟩ (.int .i64 k)).setCell ⟨g5,0*5+1,none⟩ (.string x)).setCell ⟨g5,0*5+2,none⟩ (.int .i64 xn)).setCell ⟨g5,0*5+3,none⟩ (.slice A0 n0 c0)).setCell ⟨g5,0*5+4,none⟩ (.int .i64 a)).heap[g]?=w5.heap[g]?:=(ann _ ⟨g5,0*5+4,none⟩ _ g (Ne.symm hne5)).trans ((ann _ ⟨g5,0*5+3,none⟩ _ g (Ne.symm hne5)).trans ((ann _ ⟨g5,0*5+2,none⟩ _ g (Ne.symm hne5)).trans ((ann _ ⟨g5,0*5+1,none⟩ _ g (Ne.symm hne5)).trans (ann _ ⟨g5,0*5,none⟩ _ g (Ne.symm hne5)))))
 have hpc:(((((w5.setCell ⟨g5,0*5,none⟩ (.int .i64 k)).setCell ⟨g5,0*5+1,none⟩ (.string x)).setCell ⟨g5,0*5+2,none⟩ (.int .i64 xn)).setCell ⟨g5,0*5+3,none⟩ (.slice A0 n0 c0)).setCell ⟨g5,0*5+4,none⟩ (.int .i64 a)).cell? ⟨g,2,none⟩=w5.cell? ⟨g,2,none⟩:=anw hpg
 rw [hrc] at hpc
 have UE:(((((w5.setCell ⟨g5,0*5,none⟩ (.int .i64 k)).setCell ⟨g5,0*5+1,none⟩ (.string x)).setCell ⟨g5,0*5+2,none⟩ (.int .i64 xn)).setCell ⟨g5,0*5+3,none⟩ (.slice A0 n0 c0)).setCell ⟨g5,0*5+4,none⟩ (.int .i64 a)).frozen? ⟨g,2,none⟩=w5.frozen? ⟨g,2,none⟩:=World.frozen?_of_block hpg
 rw [hrf] at UE
 have HD:=anc (And.intro d0 (And.intro d1 (And.intro d2 (And.intro d3 (And.intro d4 (And.intro r0 (And.intro r1 (And.intro r2 (And.intro r3 (And.intro r4 (And.intro hpc UE)))))))))))
 have oD:=anc (And.intro Xk (And.intro dd1 (And.intro Xn (And.intro Xp (And.intro Xr (And.intro Xl (And.intro Xm (And.intro Xo (And.intro Xq (And.intro Xt (And.intro hrc hrf)))))))))))
 have hF1:=anc (Am (x:=((.mk k x xn l a:T),A0,c0)) (o:=2) KL.out qx.out fV.out hg5.out hne5 hq)
 have hF2:=anc (sS (x:=((.mk k x xn l a:T),A0,c0)) (o:=2) KL.out qx.out fV.out hg5.out hne5 hq)
 simp only [T.k,T.s,T.n,T.kids,T.at_] at hF1 hF2
 rw [←HN0.out] at hF1 hF2
 clear hown5 bI gY hkeep hzc hpg KL qx fV d0 d1 d2 d3 d4 r0 r1 r2 r3 r4 Xk dd1 Xn Xp Xr Xl Xm Xo Xq Xt hpc UE hrc hrf
 refine hK.out _ _ (lZ.out _ hk1 hk2) (fun hHeld=>?_)
 clear hK K hk1 hk2
 simp only [ane,ang,anf,Act.put,anh,ani,anj]
 refine aj.jA (i:=8) (v:=?aln) (by decide) rfl (by kernel_rfl) (by kernel_rfl) (by kernel_rfl) (fun _ _ _ h=>h) (Or.inl ⟨by rfl,?adp⟩) ?_
 case adp=>(intro w1 hSw;go_simp;try with_reducible rfl)
 simp only [ane,ang,anf,Act.put,anh,ani,anj]
 refine aj.jA (i:=10) (v:=?alo) (by decide) rfl (by kernel_rfl) (by kernel_rfl) (by kernel_rfl) (fun _ _ _ h=>h) (Or.inl ⟨by rfl,?adq⟩) ?_
 case adq=>(intro w1 hSw;go_simp;try with_reducible rfl)
 simp only [ane,ang,anf,Act.put,anh,ani,anj]
 refine aj.jA (i:=11) (v:=?alp) (by decide) rfl (by kernel_rfl) (by kernel_rfl) (by kernel_rfl) (fun _ _ _ h=>h) (Or.inl ⟨by rfl,?adr⟩) ?_
 case adr=>(intro w1 hSw;go_simp;try with_reducible rfl)
 simp only [ane,ang,anf,Act.put,anh,ani,anj]
 refine aj.au (rs:=[9,12]) (by kernel_rfl) (by simp) ?_
 refine aj.ah.late (by decide) rfl (fun K hK=>?_) (aj.ah.late (by decide) rfl (fun K hK=>?_) aj.ah.nil)
 ·
  obtain ⟨d0,d1,d2,d3,d4,r0,r1,r2,r3,r4,hpc,UE⟩:=HD.out
  clear oD hF2 hHeld lZ
  simp only [ane,ang,anf]
  go_simp
  refine hK.out _ _ ?_
  clear hK K
  refine aj.au (rs:=[12]) (by kernel_rfl) (by simp) ?_
  refine aj.ah.late (by decide) rfl (fun K hK=>?_) aj.ah.nil
  simp only [ane,ang,anf]
  go_simp
  refine hK.out _ _ ?_
  clear hK K
  refine aj.dw (by kernel_rfl) ?_ _
  have uN:=hF1
  clear d0 d1 d2 d3 d4 r0 r1 r2 r3 r4 hpc UE
  go_wp2_with fail
  first
   | refine bodyPost_end (results_none rfl _ _ _) rfl ?_
   | refine ano (results_none rfl _ _ _) rfl ?_
  exact ⟨rfl,uN.out⟩
 ·
  obtain ⟨Xk,dd1,Xn,Xp,Xr,Xl,Xm,Xo,Xq,Xt,hrc,hrf⟩:=oD.out
  clear HD hF1 hHeld lZ
  simp only [ane,ang,anf]
  go_simp
  refine hK.out _ _ ?_
  clear hK K
  refine aj.au (rs:=[9]) (by kernel_rfl) (by simp) ?_
  refine aj.ah.late (by decide) rfl (fun K hK=>?_) aj.ah.nil
  simp only [ane,ang,anf]
  go_simp
  refine hK.out _ _ ?_
  clear hK K
  refine aj.dw (by kernel_rfl) ?_ _
  have uN:=hF2
  clear Xk dd1 Xn Xp Xr Xl Xm Xo Xq Xt hrc hrf
  go_wp2_with fail
  first
   | refine bodyPost_end (results_none rfl _ _ _) rfl ?_
   | refine ano (results_none rfl _ _ _) rfl ?_
  exact ⟨rfl,uN.out⟩
structure St where
 ps:List TP
 dn:List TP
 A:Option Addr
 c:Nat
 B:Option Addr
 cB:Nat
def bk (A:Option Addr)(k:Nat):Prop:=∃ ad:Addr,A=some ad∧ad.block=k
theorem jF {g o k:Nat}:bk (some ⟨g,o,none⟩) k↔g=k:=⟨fun ⟨ad,e,h⟩=>by injection e with e;subst e;exact h,fun h=>⟨_,rfl,h⟩⟩
theorem mG {k:Nat}:¬bk none k:=fun ⟨_,e,_⟩=>by cases e
theorem UF {A:Option Addr} {n c k:Nat}:bk A k↔(Value.slice A n c).ownBlock=some k:=by
 cases A with
 | none=>exact ⟨fun h=>absurd h mG,fun h=>by simp [Value.ownBlock] at h⟩
 | some ad=>exact ⟨fun ⟨a,e,h⟩=>by injection e with e;subst e;simpa [Value.ownBlock] using h,fun h=>⟨ad,rfl,by simpa [Value.ownBlock] using h⟩⟩
def St.live (σ:St)(k:Nat):Prop:=bk σ.A k∨bk σ.B k∨∃ p∈σ.ps,bk p.2.1 k
def St.free (σ:St)(b0:Nat)(w:World)(k:Nat):Prop:=b0≤k∧k<w.heap.size∧¬σ.live k
structure RInv (s:ByteArray)(w:World) (σ:St)(w':World):Prop where
 low:Below w.heap.size w w'
 size:w.heap.size+2≤w'.heap.size
 res:w'.heap[w.heap.size]?=some (.cells #[.int .i64 0,.string ⟨#[]⟩,.int .i64 0,.slice none 0 0,.int .i64 0] 71 (0,0))
 rd:w'.heap[w.heap.size+1]?=some (.cells #[.string s,.slice σ.A σ.ps.length σ.c,.slice σ.B σ.dn.length σ.cB] 102 (0,0))
 own:w'.ownsRow (w.heap.size+2) 71 5 (.slice σ.A σ.ps.length σ.c) σ.ps.length (aO σ.ps)
 YI:w'.ownsRow (w.heap.size+2) 71 5 (.slice σ.B σ.dn.length σ.cB) σ.dn.length (aO σ.dn)
 ab:∀ k,bk σ.A k→¬bk σ.B k
 ak:∀ p∈σ.ps,∀ k,bk p.2.1 k→¬bk σ.A k∧¬bk σ.B k
 kk:∀ (i j:Nat)(p q:TP),σ.ps[i]?=some p→σ.ps[j]?=some q→i≠j→∀ k,bk p.2.1 k→¬bk q.2.1 k
 kid:∀ p∈σ.ps,∃ qs:List TP,qs.map Prod.fst=p.1.kids∧w'.ownsRow (w.heap.size+2) 71 5 (.slice p.2.1 p.1.kids.length p.2.2) p.1.kids.length (aO qs) ∧
  ∀ q∈qs,q.1.kids.length≤q.2.2∧ku w' (σ.free (w.heap.size+2) w') q.2.1 q.1.kids
 Xu:∀ q∈σ.dn,q.1.kids.length≤q.2.2∧ku w' (σ.free (w.heap.size+2) w') q.2.1 q.1.kids
 od:σ.ps=[]∨σ.dn=[]
 bn:σ.dn=[]→σ.B=none∧σ.cB=0
theorem jG {w w':World} {base n c z:Nat} {A:Option Addr} {e:TypeId} {xs:List Value} (h:w.ownsRow base e z (.slice A n c) n xs)(hb:∀ k,bk A k→w'.heap[k]?=w.heap[k]?):w'.ownsRow base e z (.slice A n c) n xs:=by
 refine ⟨h.1,?_⟩
 rcases h.2 with hn | ⟨g',cap,cur,e1,hg,hgg,rest⟩
 ·exact .inl hn
 ·exact .inr ⟨g',cap,cur,e1,hg,by rw [hb g' (UF.2 (by rw [e1];rfl))];exact hgg,rest⟩
theorem iM {w:World} {base n c z k:Nat} {A:Option Addr} {e:TypeId} {xs:List Value} (h:w.ownsRow base e z (.slice A n c) n xs)(hk:bk A k):base≤k∧k<w.heap.size:=h.lt k (UF.1 hk)
theorem iO {w w':World} {S S':Nat→Prop} {A:Option Addr} {l:List T} (h:ku w S A l)(h1:∀ k,S k→w'.heap[k]?=w.heap[k]?)(h2:∀ k,S k→S' k):ku w' S' A l:=(h.kept h1).mono h2
theorem Nr {w:World} {base:Nat} {e:TypeId} {A:Option Addr} {c:Nat} {l:List TP} (h:w.ownsRow base e 5 (.slice A l.length c) l.length (aO l))(hn:l.length≤9223372036854775807) {S:Nat→Prop} (hS:∀ g,bk A g→S g)(hk:∀ x∈l,x.1.kids.length≤x.2.2∧ku w S x.2.1 x.1.kids) :
 (l.map Prod.fst).length≤c∧ku w S A (l.map Prod.fst):=by
 obtain ⟨_,hcase⟩:=id h
 rcases hcase with ⟨e1,h0⟩ | ⟨g,cap,cur,e1,hg,hh,hc,hcap,hsz,htake⟩
 ·have e0:l=[]:=List.eq_nil_of_length_eq_zero h0
  subst e0
  exact ⟨Nat.zero_le _,.nil _⟩
 ·injection e1 with e2 e3 e4
  subst e2 e4
  refine ⟨by rw [List.length_map];exact hc,.mk g 0 _ (by rw [List.length_map];exact hn) (hS g (jF.2 rfl)) (fun i=>((l[i]?).map fun x=>x.2.1).getD none) (fun i=>((l[i]?).map fun x=>x.2.2).getD 0) (fun i x hx=>?_) (fun i x hx=>?_)⟩
  ·rw [List.getElem?_map] at hx
   cases hl:l[i]? with
   | none=>rw [hl] at hx;cases hx
   | some y =>
     rw [hl] at hx
     obtain rfl:y.1=x:=by simpa using hx
     obtain ⟨f1,f2,f3,f4,f5⟩:=mQ l i y hl
     have hi:i<l.length:=(List.getElem?_eq_some_iff.1 hl).1
     rw [Nat.zero_add,h.cellAt _ (by omega),h.cellAt _ (by omega),h.cellAt _ (by omega),h.cellAt _ (by omega),h.cellAt _ (by omega)]
     exact ⟨f1,f2,f3,f4,f5,(hk y (anq hl)).1⟩
  ·rw [List.getElem?_map] at hx
   cases hl:l[i]? with
   | none=>rw [hl] at hx;cases hx
   | some y =>
     rw [hl] at hx
     obtain rfl:y.1=x:=by simpa using hx
     exact (hk y (anq hl)).2
section
variable {s:ByteArray} {w w1 w2:World} {σ:St}
theorem RInv.below (h:RInv s w σ w1)(hb:Below w1.heap.size w1 w2):RInv s w σ w2:=by
 have hs:=hb.size
 have hz:=h.size
 have hfree:∀ k,σ.free (w.heap.size+2) w1 k→w2.heap[k]?=w1.heap[k]?:=fun k hk=>hb.block k hk.2.1
 have hmono:∀ k,σ.free (w.heap.size+2) w1 k→σ.free (w.heap.size+2) w2 k:=fun k hk=>⟨hk.1,by have:=hk.2.1;omega,hk.2.2⟩
 refine ⟨h.low.trans (hb.mono (by omega)),by omega,(hb.block _ (by omega)).trans h.res,(hb.block _ (by omega)).trans h.rd,own_below h.own hb,own_below h.YI hb,h.ab,h.ak,h.kk,fun p hp=>?_,fun q hq=>?_,h.od,h.bn⟩
 ·obtain ⟨qs,e,ho,hx⟩:=h.kid p hp
  exact ⟨qs,e,own_below ho hb,fun q hq=>⟨(hx q hq).1,iO (hx q hq).2 hfree hmono⟩⟩
 ·exact ⟨(h.Xu q hq).1,iO (h.Xu q hq).2 hfree hmono⟩
theorem RInv.push (h:RInv s w σ w1)(hdn:σ.dn=[]) {t:T} (ht:t.kids=[])(he:vY 102 w1 w2 (w.heap.size+2) (w.heap.size+1) 1 #[.string s,.slice σ.A σ.ps.length σ.c,.slice σ.B σ.dn.length σ.cB] σ.A σ.ps.length σ.ps (t,none,0)) :
 ∃ g' cap',RInv s w { σ with ps:=σ.ps++[(t,none,0)],A:=some ⟨g',0,none⟩,c:=cap' } w2:=by
 obtain ⟨g',cap',ho,hr,has,hg⟩:=he
 have hs:=has.size
 have hz:=h.size
 refine ⟨g',cap',?_⟩
 have hb0:w.heap.size+2≤g':=(ho.lt g' rfl).1
 have hg2:∀ k,k<w1.heap.size→¬bk σ.A k→g'≠k:=fun k hk hn e=>by
  rcases hg with h1 | h1
  ·exact hn (e ▸ h1)
  ·omega
 have hblk:∀ k,k<w1.heap.size→k≠w.heap.size+1→¬bk σ.A k→w2.heap[k]?=w1.heap[k]?:=fun k h1 h2 h3=>has.block k h1 fun hx=>hx.elim h2 h3
 have hfree:∀ k,σ.free (w.heap.size+2) w1 k→w2.heap[k]?=w1.heap[k]?:=fun k hk=>hblk k hk.2.1 (by have:=hk.1;omega) (fun e=>hk.2.2 (.inl e))
 have hmono:∀ k,σ.free (w.heap.size+2) w1 k→({ σ with ps:=σ.ps++[(t,none,0)],A:=some ⟨g',0,none⟩,c:=cap' }:St).free (w.heap.size+2) w2 k:=fun k hk=>⟨hk.1,by have:=hk.2.1;omega,fun hl=>by
  rcases hl with h1 | h1 | ⟨p,hp,h1⟩
  ·exact hg2 k hk.2.1 (fun e=>hk.2.2 (.inl e)) (jF.1 h1)
  ·exact hk.2.2 (.inr (.inl h1))
  ·rcases List.mem_append.1 hp with hp | hp
   ·exact hk.2.2 (.inr (.inr ⟨p,hp,h1⟩))
   ·obtain rfl:p=(t,none,0):=by simpa using hp
    exact mG h1⟩
 have hkl:∀ p∈σ.ps,∀ k,bk p.2.1 k→w.heap.size+2≤k∧k<w1.heap.size:=fun p hp k hk=>by
  obtain ⟨qs,_,ho,_⟩:=h.kid p hp
  exact iM ho hk
 have hBl:∀ k,bk σ.B k→w.heap.size+2≤k∧k<w1.heap.size:=fun k hk=>iM h.YI hk
 refine ⟨h.low.trans (has.below (by omega) fun b hx=>hx.elim (fun e=>by omega) (fun hx=>by have:=(iM h.own hx).1;omega)),by omega,(hblk _ (by omega) (by omega) (fun e=>by have:=(iM h.own e).1;omega)).trans h.res,?_,?_,jG h.YI (fun k hk=>hblk k (hBl k hk).2 (by have:=(hBl k hk).1;omega) (fun e=>h.ab k e hk)),?_,?_,?_,?_,?_,.inr hdn,h.bn⟩
 ·rw [hr]
  simp
 ·simpa using ho
 ·intro k hk hB
  obtain rfl:=jF.1 hk
  rcases hg with h1 | h1
  ·exact h.ab _ h1 hB
  ·have:=(hBl _ hB).2;omega
 ·intro p hp k hk
  rcases List.mem_append.1 hp with hp | hp
  ·exact ⟨fun e=>hg2 k (hkl p hp k hk).2 (h.ak p hp k hk).1 (jF.1 e),(h.ak p hp k hk).2⟩
  ·obtain rfl:p=(t,none,0):=by simpa using hp
   exact absurd hk mG
 ·intro i j p q hi hj hij k hk hq
  rcases Nat.lt_or_ge i σ.ps.length with hil | hil
  ·rcases Nat.lt_or_ge j σ.ps.length with hjl | hjl
   ·simp only [List.getElem?_append_left hil] at hi
    simp only [List.getElem?_append_left hjl] at hj
    exact h.kk i j p q hi hj hij k hk hq
   ·simp only [List.getElem?_append_right hjl] at hj
    have:=anq hj
    obtain rfl:q=(t,none,0):=by simpa using this
    exact mG hq
  ·simp only [List.getElem?_append_right hil] at hi
   have:=anq hi
   obtain rfl:p=(t,none,0):=by simpa using this
   exact mG hk
 ·intro p hp
  rcases List.mem_append.1 hp with hp | hp
  ·obtain ⟨qs,e,ho2,hx⟩:=h.kid p hp
   exact ⟨qs,e,jG ho2 (fun k hk=>hblk k (hkl p hp k hk).2 (by have:=(hkl p hp k hk).1;omega) (h.ak p hp k hk).1),fun q hq=>⟨(hx q hq).1,iO (hx q hq).2 hfree hmono⟩⟩
  ·obtain rfl:p=(t,none,0):=by simpa using hp
   refine ⟨[],by rw [ht];rfl,?_,fun q hq=>by cases hq⟩
   show w2.ownsRow _ _ 5 (.slice none t.kids.length 0) t.kids.length (aO [])
   rw [ht]
   exact ⟨rfl,.inl ⟨rfl,rfl⟩⟩
 ·intro q hq
  exact ⟨(h.Xu q hq).1,iO (h.Xu q hq).2 hfree hmono⟩
theorem RInv.done (h:RInv s w σ w1)(hps:σ.ps=[])(hdn:σ.dn=[]) {x:TP} (hx:x.1.kids.length≤x.2.2∧ku w1 (σ.free (w.heap.size+2) w1) x.2.1 x.1.kids)
 (he:vY 102 w1 w2 (w.heap.size+2) (w.heap.size+1) 2 #[.string s,.slice σ.A 0 σ.c,.slice none 0 0] none 0 [] x) :
 ∃ g' cap',RInv s w { σ with dn:=[x],B:=some ⟨g',0,none⟩,cB:=cap' } w2:=by
 obtain ⟨g',cap',ho,hr,has,hg⟩:=he
 have hs:=has.size
 have hz:=h.size
 refine ⟨g',cap',?_⟩
 have hge:w1.heap.size≤g':=by
  rcases hg with h1 | h1
  ·exact absurd h1 mG
  ·exact h1
 have hblk:∀ k,k<w1.heap.size→k≠w.heap.size+1→w2.heap[k]?=w1.heap[k]?:=fun k h1 h2=>has.block k h1 fun hx=>hx.elim h2 mG
 have hfree:∀ k,σ.free (w.heap.size+2) w1 k→w2.heap[k]?=w1.heap[k]?:=fun k hk=>hblk k hk.2.1 (by have:=hk.1;omega)
 have hmono:∀ k,σ.free (w.heap.size+2) w1 k→({ σ with dn:=[x],B:=some ⟨g',0,none⟩,cB:=cap' }:St).free (w.heap.size+2) w2 k:=fun k hk=>⟨hk.1,by have:=hk.2.1;omega,fun hl=>by
  rcases hl with h1 | h1 | ⟨p,hp,h1⟩
  ·exact hk.2.2 (.inl h1)
  ·have:=jF.1 h1;have:=hk.2.1;omega
  ·exact hk.2.2 (.inr (.inr ⟨p,hp,h1⟩))⟩
 refine ⟨h.low.trans (has.below (by omega) fun b hx=>hx.elim (fun e=>by omega) (fun hx=>absurd hx mG)),by omega,(hblk _ (by omega) (by omega)).trans h.res,?_,jG h.own (fun k hk=>hblk k (iM h.own hk).2 (by have:=(iM h.own hk).1;omega)),?_,?_,?_,?_,?_,?_,.inl hps,fun e=>by cases e⟩
 ·rw [hr,hps]
  rfl
 ·exact ho
 ·intro k hk hB
  have:=(iM h.own hk).2
  have:=jF.1 hB
  omega
 ·intro p hp;simp only [hps] at hp;cases hp
 ·intro i j p q hi;simp only [hps] at hi;cases hi
 ·intro p hp;simp only [hps] at hp;cases hp
 ·intro q hq
  obtain rfl:q=x:=by simpa using hq
  exact ⟨hx.1,iO hx.2 hfree hmono⟩
theorem RInv.aae (h:RInv s w σ w1) {m gO n:Nat} {cur:Array Value} {qs:List TP} {p x:TP} (hm:σ.ps.length=m+1)(hp:σ.ps[m]?=some p)(hA:σ.A=some ⟨gO,0,none⟩)(Nq:w1.heap[gO]?=some (.cells cur 71 (0,0)))
 (hn:n=p.1.kids.length)(hqs:qs.map Prod.fst=p.1.kids)(hqk:∀ q∈qs,q.1.kids.length≤q.2.2∧ku w1 (σ.free (w.heap.size+2) w1) q.2.1 q.1.kids)
 (hx:x.1.kids.length≤x.2.2∧ku w1 (σ.free (w.heap.size+2) w1) x.2.1 x.1.kids)(he:UA w1 w2 (w.heap.size+2) gO (m*5+3) cur p.2.1 n qs x) :
 ∃ g' cap',RInv s w { σ with ps:=σ.ps.set m (p.1.kid x.1,some ⟨g',0,none⟩,cap') } w2:=by
 obtain ⟨g',cap',ho,hr,has,hg⟩:=he
 subst hn
 have hs:=has.size
 have hz:=h.size
 have hpm:=anq hp
 have aaf:m<σ.ps.length:=by omega
 refine ⟨g',cap',?_⟩
 have YH:=iM h.own (k:=gO) (by rw [hA];exact jF.2 rfl)
 have hkl:∀ p∈σ.ps,∀ k,bk p.2.1 k→w.heap.size+2≤k∧k<w1.heap.size:=fun p hp k hk=>by
  obtain ⟨qs,_,ho,_⟩:=h.kid p hp
  exact iM ho hk
 have hg2:∀ k,k<w1.heap.size→¬bk p.2.1 k→g'≠k:=fun k hk hn e=>by
  rcases hg with h1 | h1
  ·exact hn (e ▸ h1)
  ·omega
 have hblk:∀ k,k<w1.heap.size→¬bk σ.A k→¬bk p.2.1 k→w2.heap[k]?=w1.heap[k]?:=fun k h1 h2 h3=>has.block k h1 fun hx=>hx.elim (fun e=>h2 (by rw [hA];exact jF.2 e.symm)) h3
 have hfree:∀ k,σ.free (w.heap.size+2) w1 k→w2.heap[k]?=w1.heap[k]?:=fun k hk=>hblk k hk.2.1 (fun e=>hk.2.2 (.inl e)) (fun e=>hk.2.2 (.inr (.inr ⟨p,hpm,e⟩)))
 have hset:∀ q,q∈σ.ps.set m (p.1.kid x.1,some ⟨g',0,none⟩,cap')→(q=(p.1.kid x.1,some ⟨g',0,none⟩,cap'))∨∃ j,j≠m∧σ.ps[j]?=some q:=fun q hq=>by
  obtain ⟨j,hj⟩:=List.mem_iff_getElem?.1 hq
  by_cases e:m=j
  ·subst e
   rw [List.getElem?_set_self aaf] at hj
   exact .inl (Option.some.inj hj).symm
  ·rw [List.getElem?_set_ne e] at hj
   exact .inr ⟨j,fun h=>e h.symm,hj⟩
 have hmono:∀ k,σ.free (w.heap.size+2) w1 k→({ σ with ps:=σ.ps.set m (p.1.kid x.1,some ⟨g',0,none⟩,cap') }:St).free (w.heap.size+2) w2 k:=fun k hk=>⟨hk.1,by have:=hk.2.1;omega,fun hl=>by
  rcases hl with h1 | h1 | ⟨q,hq,h1⟩
  ·exact hk.2.2 (.inl h1)
  ·exact hk.2.2 (.inr (.inl h1))
  ·rcases hset q hq with rfl | ⟨j,_,hj⟩
   ·exact hg2 k hk.2.1 (fun e=>hk.2.2 (.inr (.inr ⟨p,hpm,e⟩))) (jF.1 h1)
   ·exact hk.2.2 (.inr (.inr ⟨q,anq hj,h1⟩))⟩
 have hBl:∀ k,bk σ.B k→w.heap.size+2≤k∧k<w1.heap.size:=fun k hk=>iM h.YI hk
 have hdn:σ.dn=[]:=by
  rcases h.od with h1 | h1
  ·rw [h1] at hm;cases hm
  ·exact h1
 refine ⟨h.low.trans (has.below (by omega) fun b hx=>hx.elim (fun e=>by omega) (fun hx=>by have:=(hkl p hpm b hx).1;omega)),by omega,(hblk _ (by omega) (fun e=>by have:=(iM h.own e).1;omega) (fun e=>by have:=(hkl p hpm _ e).1;omega)).trans h.res,
  ?_,?_,jG h.YI (fun k hk=>hblk k (hBl k hk).2 (fun e=>h.ab k e hk) (fun e=>(h.ak p hpm k e).2 hk)),h.ab,?_,?_,?_,?_,.inr hdn,h.bn⟩
 ·rw [(hblk _ (by omega) (fun e=>by have:=(iM h.own e).1;omega) (fun e=>by have:=(hkl p hpm _ e).1;omega)).trans h.rd]
  simp
 ·obtain ⟨h1,h2⟩:=h.own
  refine ⟨by rw [fF],.inr ?_⟩
  rcases h2 with ⟨_,h'⟩ | ⟨g3,cap3,agh,e3,hb3,hg3,hnc,hcm,hcs,htake⟩
  ·rw [hm] at h';cases h'
  ·rw [hA] at e3
   simp only [Value.slice.injEq,Option.some.injEq,Addr.mk.injEq,and_true,true_and] at e3
   obtain ⟨rfl,e4⟩:=e3
   rw [Nq] at hg3
   have hcc:cur=agh:=by injection hg3 with hg3;injection hg3
   subst hcc
   refine ⟨gO,σ.c,_,by simp only [hA,List.length_set],hb3,hr,by rw [e4];simpa using hnc,by rw [e4];exact hcm,by rw [Array.size_setIfInBounds,hcs,e4],?_⟩
   rw [Array.toList_setIfInBounds,List.take_set,List.length_set,htake]
   have hks:p.1.kids.length+1=(p.1.kids++[x.1]).length:=by simp
   rw [hks,EG σ.ps m p (p.1.kids++[x.1]) (some ⟨g',0,none⟩) cap' hp]
   rfl
 ·intro q hq k hk
  rcases hset q hq with rfl | ⟨j,_,hj⟩
  ·have e:=jF.1 hk
   subst e
   rcases hg with h1 | h1
   ·exact h.ak p hpm _ h1
   ·exact ⟨fun e=>by have:=(iM h.own e).2;omega,fun e=>by have:=(hBl _ e).2;omega⟩
  ·exact h.ak q (anq hj) k hk
 ·intro i j a b hi hj hij k hk hq
  by_cases ei:m=i
  ·subst ei
   have hi':(p.1.kid x.1,some ⟨g',0,none⟩,cap')=a:=by
    have:=hi
    simp only [List.getElem?_set_self aaf] at this
    exact Option.some.inj this
   subst hi'
   have hj':σ.ps[j]?=some b:=by have:=hj;simp only [List.getElem?_set_ne hij] at this;exact this
   have e:=jF.1 hk
   subst e
   rcases hg with h1 | h1
   ·exact h.kk m j p b hp hj' hij _ h1 hq
   ·have:=(hkl b (anq hj') _ hq).2;omega
  ·have hi':σ.ps[i]?=some a:=by have:=hi;simp only [List.getElem?_set_ne ei] at this;exact this
   by_cases ej:m=j
   ·subst ej
    have hj':(p.1.kid x.1,some ⟨g',0,none⟩,cap')=b:=by
     have:=hj
     simp only [List.getElem?_set_self aaf] at this
     exact Option.some.inj this
    subst hj'
    have e:=jF.1 hq
    subst e
    rcases hg with h1 | h1
    ·exact h.kk i m a p hi' hp hij _ hk h1
    ·have:=(hkl a (anq hi') _ hk).2;omega
   ·have hj':σ.ps[j]?=some b:=by have:=hj;simp only [List.getElem?_set_ne ej] at this;exact this
    exact h.kk i j a b hi' hj' hij k hk hq
 ·intro q hq
  rcases hset q hq with rfl | ⟨j,hjm,hj⟩
  ·refine ⟨qs++[x],by rw [List.map_append,hqs];rfl,?_,fun y hy=>?_⟩
   ·show w2.ownsRow _ _ 5 (.slice (some ⟨g',0,none⟩) (p.1.kids++[x.1]).length cap') (p.1.kids++[x.1]).length (aO (qs++[x]))
    rw [List.length_append]
    exact ho
   ·rcases List.mem_append.1 hy with hy | hy
    ·exact ⟨(hqk y hy).1,iO (hqk y hy).2 hfree hmono⟩
    ·obtain rfl:y=x:=by simpa using hy
     exact ⟨hx.1,iO hx.2 hfree hmono⟩
  ·obtain ⟨qs2,e,ho2,hx2⟩:=h.kid q (anq hj)
   exact ⟨qs2,e,jG ho2 (fun k hk=>hblk k (hkl q (anq hj) k hk).2 (h.ak q (anq hj) k hk).1 (h.kk j m q p hj hp hjm k hk)),fun y hy=>⟨(hx2 y hy).1,iO (hx2 y hy).2 hfree hmono⟩⟩
 ·intro q hq
  exact ⟨(h.Xu q hq).1,iO (h.Xu q hq).2 hfree hmono⟩
theorem RInv.pop (h:RInv s w σ w1) {m:Nat} {p:TP} (hm:σ.ps.length=m+1)(hp:σ.ps[m]?=some p)(hk6:p.1.kids.length≤9223372036854775807) :
 RInv s w { σ with ps:=σ.ps.take m } (w1.setCell ⟨w.heap.size+1,1,none⟩ (.slice σ.A m σ.c)) ∧
 (p.1.kids.length≤p.2.2∧ku (w1.setCell ⟨w.heap.size+1,1,none⟩ (.slice σ.A m σ.c)) (({ σ with ps:=σ.ps.take m }:St).free (w.heap.size+2) (w1.setCell ⟨w.heap.size+1,1,none⟩ (.slice σ.A m σ.c))) p.2.1 p.1.kids):=by
 have hz:=h.size
 have hpm:=anq hp
 obtain ⟨w2,uT⟩:∃ w2,w2=w1.setCell ⟨w.heap.size+1,1,none⟩ (.slice σ.A m σ.c):=⟨_,rfl⟩
 have hs:w2.heap.size=w1.heap.size:=by rw [uT];simp [World.setCell]
 have hblk:∀ k,k≠w.heap.size+1→w2.heap[k]?=w1.heap[k]?:=fun k hk=>by rw [uT];exact ann w1 ⟨w.heap.size+1,1,none⟩ _ k hk
 have hlow:Below w.heap.size w w2:=by rw [uT];exact h.low.setCell (p:=⟨w.heap.size+1,1,none⟩) (by simp) _
 have hrd:w2.heap[w.heap.size+1]?=some (.cells #[.string s,.slice σ.A m σ.c,.slice σ.B σ.dn.length σ.cB] 102 (0,0)):=by rw [uT];exact Ie.D7 h.rd _ _
 rw [←uT]
 clear uT
 have htk:(σ.ps.take m).length=m:=by rw [List.length_take];omega
 have hmem:∀ q,q∈σ.ps.take m→∃ j,j≠m∧σ.ps[j]?=some q:=fun q hq=>by
  obtain ⟨j,hj⟩:=List.mem_iff_getElem?.1 hq
  have hjm:j<m:=by
   rcases Nat.lt_or_ge j m with h' | h'
   ·exact h'
   ·rw [List.getElem?_take_eq_none h'] at hj;cases hj
  rw [List.getElem?_take_of_lt hjm] at hj
  exact ⟨j,by omega,hj⟩
 have hkl:∀ p∈σ.ps,∀ k,bk p.2.1 k→w.heap.size+2≤k∧k<w1.heap.size:=fun p hp k hk=>by
  obtain ⟨qs,_,ho,_⟩:=h.kid p hp
  exact iM ho hk
 have hfree:∀ k,σ.free (w.heap.size+2) w1 k→w2.heap[k]?=w1.heap[k]?:=fun k hk=>hblk k (by have:=hk.1;omega)
 have hmono:∀ k,σ.free (w.heap.size+2) w1 k→({ σ with ps:=σ.ps.take m }:St).free (w.heap.size+2) w2 k:=fun k hk=>⟨hk.1,by rw [hs];exact hk.2.1,fun hl=>by
  rcases hl with h1 | h1 | ⟨q,hq,h1⟩
  ·exact hk.2.2 (.inl h1)
  ·exact hk.2.2 (.inr (.inl h1))
  ·obtain ⟨j,_,hj⟩:=hmem q hq
   exact hk.2.2 (.inr (.inr ⟨q,anq hj,h1⟩))⟩
 have hdn:σ.dn=[]:=by
  rcases h.od with h1 | h1
  ·rw [h1] at hm;cases hm
  ·exact h1
 constructor
 ·refine ⟨hlow,by omega,(hblk _ (by omega)).trans h.res,?_,?_,jG h.YI (fun k hk=>hblk k (by have:=(iM h.YI hk).1;omega)),h.ab,fun q hq k hk=>?_,fun i j a b hi hj hij k hk hq=>?_,fun q hq=>?_,fun q hq=>?_,.inr hdn,h.bn⟩
  ·rw [hrd];simp only [htk]
  ·have ho:w2.ownsRow (w.heap.size+2) 71 5 (.slice σ.A σ.ps.length σ.c) σ.ps.length (aO σ.ps):=jG h.own (fun k hk=>hblk k (by have:=(iM h.own hk).1;omega))
   obtain ⟨g,cap,e,_⟩:=ho.form (by omega)
   injection e with e1 _ e3
   rw [e1] at ho
   have:=IA ho rfl (k:=m) (by omega)
   simp only [htk]
   rw [e1]
   exact this
  ·obtain ⟨j,_,hj⟩:=hmem q hq
   exact h.ak q (anq hj) k hk
  ·have get:∀ {i:Nat} {a:TP},(σ.ps.take m)[i]?=some a→σ.ps[i]?=some a:=fun {i a} hi=>by
    rcases Nat.lt_or_ge i m with h' | h'
    ·rw [List.getElem?_take_of_lt h'] at hi;exact hi
    ·rw [List.getElem?_take_eq_none h'] at hi;cases hi
   exact h.kk i j a b (get hi) (get hj) hij k hk hq
  ·obtain ⟨j,_,hj⟩:=hmem q hq
   obtain ⟨qs,e,ho,hx⟩:=h.kid q (anq hj)
   exact ⟨qs,e,jG ho (fun k hk=>hblk k (by have:=(iM ho hk).1;omega)),fun y hy=>⟨(hx y hy).1,iO (hx y hy).2 hfree hmono⟩⟩
  ·exact ⟨(h.Xu q hq).1,iO (h.Xu q hq).2 hfree hmono⟩
 ·obtain ⟨qs,e,ho,hx⟩:=h.kid p hpm
  have hl:p.1.kids.length=qs.length:=by rw [←e,List.length_map]
  have ho2:w2.ownsRow (w.heap.size+2) 71 5 (.slice p.2.1 qs.length p.2.2) qs.length (aO qs):=by
   rw [←hl]
   exact jG ho (fun k hk=>hblk k (by have:=(iM ho hk).1;omega))
  have:=Nr ho2 (by omega) (S:=({ σ with ps:=σ.ps.take m }:St).free (w.heap.size+2) w2) (fun k hk=>⟨(hkl p hpm k hk).1,by rw [hs];exact (hkl p hpm k hk).2,fun hlv=>by
   rcases hlv with h1 | h1 | ⟨q,hq,h1⟩
   ·exact (h.ak p hpm k hk).1 h1
   ·exact (h.ak p hpm k hk).2 h1
   ·obtain ⟨j,hjm,hj⟩:=hmem q hq
    exact h.kk m j p q hp hj (Ne.symm hjm) k hk h1⟩) (fun q hq=>⟨(hx q hq).1,iO (hx q hq).2 hfree hmono⟩)
  rw [e] at this
  exact this
end
def ads (s:ByteArray)(w:World) (σ:St)(t:T)(w2:World):Prop:=∃ σ':St,RInv s w σ' w2∧(σ'.ps.map Prod.fst,σ'.dn.map Prod.fst)=kT (σ.ps.map Prod.fst) (σ.dn.map Prod.fst) t∧σ'.ps.length=σ.ps.length∧(σ.ps≠[]→σ'.dn=σ.dn) ∧
 ∀ p∈σ'.ps,∃ p0∈σ.ps,p.1.kids.length≤p0.1.kids.length+1
theorem add_any {s:ByteArray} {w w1:World} {σ:St} (h:RInv s w σ w1)(x:TP)(hx:x.1.kids.length≤x.2.2∧ku w1 (σ.free (w.heap.size+2) w1) x.2.1 x.1.kids)(hfew:σ.ps.length≤12)(hk:∀ p∈σ.ps,p.1.kids.length≤600)(hd:σ.ps=[]→σ.dn=[]) :
 Calls Tryz.prog 54 #[.pointer (some ⟨w.heap.size+1,0,none⟩),.agg #[.int .i64 x.1.k,.string x.1.s,.int .i64 x.1.n,.slice x.2.1 x.1.kids.length x.2.2,.int .i64 x.1.at_]] w1 fun e w2=>e=.returned (.tuple #[])∧ads s w σ x.1 w2:=by
 obtain ⟨⟨k,xs,xn,l,a⟩,A0,c0⟩:=x
 have hz:=h.size
 rcases Nat.eq_zero_or_pos σ.ps.length with h0 | h0
 ·have hps:σ.ps=[]:=List.eq_nil_of_length_eq_zero h0
  have hdn:=hd hps
  obtain ⟨hB,hcB⟩:=h.bn hdn
  have hrd:=h.rd
  rw [hps,hdn,hB,hcB] at hrd
  refine (UD (w.heap.size+1) σ.c (w.heap.size+2) σ.A s k xn a xs l A0 l.length c0 w1 hrd (by omega) rfl).mono ?_
  rintro e w2 ⟨rfl,he⟩
  refine ⟨rfl,?_⟩
  obtain ⟨g',cap',hr⟩:=h.done hps hdn hx he
  refine ⟨_,hr,?_,rfl,fun hne=>absurd hps hne,fun p hp=>?_⟩
  ·simp only [hps,hdn,List.map_nil,List.map_cons]
   rfl
  ·simp only [hps] at hp;cases hp
 ·obtain ⟨m,hm⟩:∃ m,σ.ps.length=m+1:=⟨σ.ps.length-1,by omega⟩
  obtain ⟨p,hp⟩:∃ p,σ.ps[m]?=some p:=⟨_,anr (by omega)⟩
  have hpm:=anq hp
  obtain ⟨qs,hqs,ho,hqk⟩:=h.kid p hpm
  obtain ⟨hl,hc⟩:=h.own
  rcases hc with ⟨_,h'⟩ | ⟨gO,Np,cur,e1,hb,hg,hnc,hcm,hcs,htake⟩
  ·omega
  ·have hA:σ.A=some ⟨gO,0,none⟩:=by injection e1
   have hrd:=h.rd
   rw [hA,hm] at hrd
   have Nq:cur[m*5+3]?=some (.slice p.2.1 p.1.kids.length p.2.2):=by
    have h5:=(mQ σ.ps m p hp).2.2.2.1
    rw [←htake,List.getElem?_take_of_lt (by omega),Array.getElem?_toList] at h5
    exact h5
   refine (Xi (w.heap.size+1) gO m σ.c (.slice σ.B σ.dn.length σ.cB) s cur p.2.1 p.1.kids.length p.2.2 (w.heap.size+2) qs k xn a xs l A0 l.length c0 w1 hrd hg Nq (by omega) (hk p hpm) (by omega) rfl ho (fun ad e=>?_)).mono ?_
   ·have hbk:bk p.2.1 ad.block:=⟨ad,e,rfl⟩
    refine ⟨fun e2=>by have:=(iM ho hbk).1;omega,fun e2=>(h.ak p hpm ad.block hbk).1 ?_⟩
    rw [hA]
    exact jF.2 e2.symm
   ·rintro e w2 ⟨rfl,he⟩
    refine ⟨rfl,?_⟩
    obtain ⟨g',cap',hr⟩:=h.aae hm hp hA hg rfl hqs hqk hx he
    refine ⟨_,hr,?_,by simp,fun _=>rfl,fun q hq=>?_⟩
    ·unfold kT
     rw [List.length_map,hm,Nat.add_sub_cancel,List.getElem?_map,hp]
     simp only [Option.map_some,List.map_set]
    ·obtain ⟨j,hj⟩:=List.mem_iff_getElem?.1 hq
     by_cases ej:m=j
     ·subst ej
      have hj':(p.1.kid (.mk k xs xn l a),some ⟨g',0,none⟩,cap')=q:=by
       have:=hj
       simp only [List.getElem?_set_self (show m<σ.ps.length by omega)] at this
       exact Option.some.inj this
      subst hj'
      exact ⟨p,hpm,by show (p.1.kids++[_]).length≤_;simp⟩
     ·have hj':σ.ps[j]?=some q:=by have:=hj;simp only [List.getElem?_set_ne ej] at this;exact this
      exact ⟨q,anq hj',by omega⟩
end Go.Proofs.YtjhkihkiebnpaaaGreatDoor
namespace Go.Proofs.YtjhkihkiebnpaaaGreatDoor
def Ns (s:ByteArray)(g0 g1:Nat)(q:Int)(a:Act):Prop:=∃ tm:Array Value,a={ tmps:=tm,defers:=[] }∧tm.size=131∧tm.getD 0 undef=.string s∧tm.getD 2 undef=.pointer (some ⟨g0,0,none⟩)∧tm.getD 5 undef=.pointer (some ⟨g1,0,none⟩)∧tm.getD 6 undef=.int .i64 q
theorem Ns.form {s:ByteArray} {g0 g1:Nat} {q:Int} {a:Act} (h:Ns s g0 g1 q a):∃ u:Nat→Value,a={ tmps:=#[.string s,u 1,.pointer (some ⟨g0,0,none⟩),u 3,u 4,.pointer (some ⟨g1,0,none⟩),.int .i64 q,u 7,u 8,u 9,u 10,u 11,u 12,u 13,u 14,u 15,u 16,u 17,u 18,u 19,u 20,u 21,u 22,u 23,u 24,u 25,u 26,u 27,u 28,u 29,u 30,u 31,u 32,u 33,u 34,u 35,u 36,u 37,u 38,u 39,u 40,u 41,u 42,u 43,u 44,u 45,u 46,u 47,u 48,u 49,u 50,u 51,u 52,u 53,u 54,u 55,u 56,u 57,u 58,u 59,u 60,u 61,u 62,u 63,u 64,u 65,u 66,u 67,u 68,u 69,u 70,u 71,u 72,u 73,u 74,u 75,u 76,u 77,u 78,u 79,u 80,u 81,u 82,u 83,u 84,u 85,u 86,u 87,u 88,u 89,u 90,u 91,u 92,u 93,u 94,u 95,u 96,u 97,u 98,u 99,u 100,u 101,u 102,u 103,u 104,u 105,u 106,u 107,u 108,u 109,u 110,u 111,u 112,u 113,u 114,u 115,u 116,u 117,u 118,u 119,u 120,u 121,u 122,u 123,u 124,u 125,u 126,u 127,u 128,u 129,u 130],defers:=[] }:=by
 obtain ⟨tm,rfl,h,h0,h2,h5,h6⟩:=h
 have e:tm=#[tm.getD 0 undef,tm.getD 1 undef,tm.getD 2 undef,tm.getD 3 undef,tm.getD 4 undef,tm.getD 5 undef,tm.getD 6 undef,tm.getD 7 undef,tm.getD 8 undef,tm.getD 9 undef,tm.getD 10 undef,tm.getD 11 undef,tm.getD 12 undef,tm.getD 13 undef,tm.getD 14 undef,tm.getD 15 undef,tm.getD 16 undef,tm.getD 17 undef,tm.getD 18 undef,tm.getD 19 undef,tm.getD 20 undef,tm.getD 21 undef,tm.getD 22 undef,tm.getD 23 undef,tm.getD 24 undef,tm.getD 25 undef,tm.getD 26 undef,tm.getD 27 undef,tm.getD 28 undef,tm.getD 29 undef,tm.getD 30 undef,tm.getD 31 undef,tm.getD 32 undef,tm.getD 33 undef,tm.getD 34 undef,tm.getD 35 undef,tm.getD 36 undef,tm.getD 37 undef,tm.getD 38 undef,tm.getD 39 undef,tm.getD 40 undef,tm.getD 41 undef,tm.getD 42 undef,tm.getD 43 undef,tm.getD 44 undef,tm.getD 45 undef,tm.getD 46 undef,tm.getD 47 undef,tm.getD 48 undef,tm.getD 49 undef,tm.getD 50 undef,tm.getD 51 undef,tm.getD 52 undef,tm.getD 53 undef,tm.getD 54 undef,tm.getD 55 undef,tm.getD 56 undef,tm.getD 57 undef,tm.getD 58 undef,tm.getD 59 undef,tm.getD 60 undef,tm.getD 61 undef,tm.getD 62 undef,tm.getD 63 undef,tm.getD 64 undef,tm.getD 65 undef,tm.getD 66 undef,tm.getD 67 undef,tm.getD 68 undef,tm.getD 69 undef,tm.getD 70 undef,tm.getD 71 undef,tm.getD 72 undef,tm.getD 73 undef,tm.getD 74 undef,tm.getD 75 undef,tm.getD 76 undef,tm.getD 77 undef,tm.getD 78 undef,tm.getD 79 undef,tm.getD 80 undef,tm.getD 81 undef,tm.getD 82 undef,tm.getD 83 undef,tm.getD 84 undef,tm.getD 85 undef,tm.getD 86 undef,tm.getD 87 undef,tm.getD 88 undef,tm.getD 89 undef,tm.getD 90 undef,tm.getD 91 undef,tm.getD 92 undef,tm.getD 93 undef,tm.getD 94 undef,tm.getD 95 undef,tm.getD 96 undef,tm.getD 97 undef,tm.getD 98 undef,tm.getD 99 undef,tm.getD 100 undef,tm.getD 101 undef,tm.getD 102 undef,tm.getD 103 undef,tm.getD 104 undef,tm.getD 105 undef,tm.getD 106 undef,tm.getD 107 undef,tm.getD 108 undef,tm.getD 109 undef,tm.getD 110 undef,tm.getD 111 undef,tm.getD 112 undef,tm.getD 113 undef,tm.getD 114 undef,tm.getD 115 undef,tm.getD 116 undef,tm.getD 117 undef,tm.getD 118 undef,tm.getD 119 undef,tm.getD 120 undef,tm.getD 121 undef,tm.getD 122 undef,tm.getD 123 undef,tm.getD 124 undef,tm.getD 125 undef,tm.getD 126 undef,tm.getD 127 undef,tm.getD 128 undef,tm.getD 129 undef,tm.getD 130 undef]:=(Ux h).trans (by kernel_rfl)
 refine ⟨fun i=>tm.getD i undef,congrArg (fun t=>({ tmps:=t,defers:=[] }:Act)) (e.trans ?_)⟩
 rw [←h0,←h2,←h5,←h6]
end Go.Proofs.YtjhkihkiebnpaaaGreatDoor
namespace Go.Proofs.YtjhkihkiebnpaaaGreatDoor
open Go.RowKit
theorem results_read {fn:Func} {p q r:Tmp} (h:fn.results=#[.cell p 71,.tmp q,.tmp r]) {tmps:Array Value} {w:World} {g:Nat} {x0 x1 x2 x3 x4 a b:Value} {t:TypeId}
 (hp:tmps.getD p undef=.pointer (some ⟨g,0,none⟩))(hq:tmps.getD q undef=a)(hr:tmps.getD r undef=b)(hg:w.heap[g]?=some (.cells #[x0,x1,x2,x3,x4] t (0,0))):(results fn tmps).run Tryz.prog w=.ok (.tuple #[.agg #[x0,x1,x2,x3,x4],a,b]) w:=by
 have hp':tmps[p]?.getD undef=.pointer (some ⟨g,0,none⟩):=by simpa using hp
 have hq':tmps[q]?.getD undef=a:=by simpa using hq
 have hr':tmps[r]?.getD undef=b:=by simpa using hr
 have hl:=run_loadVar_row (P:=Tryz.prog) w g t 71 #[x0,x1,x2,x3,x4] (0,0) _ hg Tryz.underlying71 rfl (by show _=some 5;kernel_rfl)
 simp [results,h,hp',hq',hr',asAddr,hl]
def Ha (w:World)(R:T×Int×Int)(e:Ending)(w':World):Prop:=∃ (A:Option Addr)(c:Nat),
 e=.returned (.tuple #[.agg #[.int .i64 R.1.k,.string R.1.s,.int .i64 R.1.n,.slice A R.1.kids.length c,.int .i64 R.1.at_],.int .i64 R.2.1,.int .i64 R.2.2])∧R.1.kids.length≤c∧ku w' (fun k=>w.heap.size≤k∧k<w'.heap.size) A R.1.kids
theorem Ha.none_ {w w':World} {R:T×Int×Int} {e:Ending} {why place:Int} (h:R=(aH,why,place))(he:e=.returned (.tuple #[.agg #[.int .i64 0,.string ⟨#[]⟩,.int .i64 0,.slice none 0 0,.int .i64 0],.int .i64 why,.int .i64 place])):Ha w R e w':=by
 subst h
 exact ⟨none,0,he,ank _,.nil _⟩
structure RD (s:ByteArray)(w:World)(R:T×Int×Int)(l i:Nat) (σ:St)(w1:World):Prop where
 inv:RInv s w σ w1
 is:i≤s.size
 run:bf s (σ.ps.map Prod.fst) (σ.dn.map Prod.fst) i=R
 few:σ.ps.length≤12
 kids:∀ p∈σ.ps,p.1.kids.length≤i
 lab:l=1∨(l=0∧¬i<s.size)∨(l=2∧i<s.size∧((bt s i).toNat:Int)=40)∨(l=3∧i<s.size∧((bt s i).toNat:Int)=41)
def RJ (s:ByteArray)(w:World)(R:T×Int×Int)(n l:Nat)(a:Act)(w1:World):Prop:=∃ (i:Nat)(q:Int) (σ:St),Ns s w.heap.size (w.heap.size+1) q a∧q=(i:Int)∧n=2*(s.size-i)+(if l=1 then 1 else 0)∧Hid (RD s w R l i σ w1)
theorem QM (hP:uD)(hH:yt)(s:ByteArray)(hs:s.size≤600)(w:World)(hE:Errs w):Calls Tryz.prog 29 #[.string s] w fun e w'=>Ha w (bf s [] [] 0) e w'∧Below w.heap.size w w':=by
 obtain ⟨R,hR⟩:∃ R,R=bf s [] [] 0:=⟨_,rfl⟩
 rw [←hR]
 have HRR:=anc hR
 obtain ⟨w1,aK⟩:∃ w1,w1=w.alloc (.cells #[.int .i64 0,.string ⟨#[]⟩,.int .i64 0,.slice none 0 0,.int .i64 0] 71):=⟨_,rfl⟩
 have hb1:Below w.heap.size w w1:=by rw [aK];exact (anl _ _).alloc (ank _) _
 have hs1:w1.heap.size=w.heap.size+1:=by rw [aK];simp
 have hx1:w1.heap[w.heap.size]?=some (.cells #[.int .i64 0,.string ⟨#[]⟩,.int .i64 0,.slice none 0 0,.int .i64 0] 71 (0,0)):=by rw [aK];exact anm w _
 obtain ⟨w2,uT⟩:∃ w2,w2=w1.alloc (.cells #[.string s,.slice none 0 0,.slice none 0 0] 102):=⟨_,rfl⟩
 have hb2:Below w1.heap.size w1 w2:=by rw [uT];exact (anl _ _).alloc (ank _) _
 have hs2:w2.heap.size=w.heap.size+1+1:=by rw [uT];simp;omega
 have hg2:w2.heap[w.heap.size+1]?=some (.cells #[.string s,.slice none 0 0,.slice none 0 0] 102 (0,0)):=by rw [uT,←hs1];exact anm w1 _
 have HI0:Hid (RInv s w ⟨[],[],none,0,none,0⟩ w2):=anc ⟨hb1.trans (hb2.mono (by omega)),by omega,(hb2.block _ (by omega)).trans hx1,hg2,⟨rfl,.inl ⟨rfl,rfl⟩⟩,⟨rfl,.inl ⟨rfl,rfl⟩⟩,fun k hk=>absurd hk mG,fun p hp=>(by cases hp),fun i j p q hi=>(by simp at hi),fun p hp=>(by cases hp),fun q hq=>(by cases hq),.inl rfl,fun _=>⟨rfl,rfl⟩⟩
 have HW1:=anc aK
 have HW2:=anc uT
 have HE:=anc hE
 have QN:decide (600<(s.size:Int))=false:=by simp;omega
 clear aK uT hb1 hb2 hx1 hg2 hE hR
 go_enter Tryz.func29,Tryz.ntmps29
 go_upto_region 1 with (fail)
 rw [←HW1.out]
 go_wp2_with fail
 clear QN
 refine Dt (RJ s w R) (fun hlab=>?_) (fun n l a w3 hJ=>?_)
 ·have HLB:=anc (fun n=>hlab n 1 _ rfl)
  clear hlab
  go_wp2_with fail
  refine wp_label ?_
  simp only [Exit.then]
  rename_i hK0
  rw [←HW2.out]
  refine hK0 _ _ (HLB.out (2*(s.size-0)+(if (1:Nat)=1 then 1 else 0)) _ _ ?_)
  exact ⟨0,0,⟨[],[],none,0,none,0⟩,⟨_,rfl,by kernel_rfl,by kernel_rfl,by kernel_rfl,by kernel_rfl,by kernel_rfl⟩,rfl,rfl,anc ⟨HI0.out,Nat.zero_le _,HRR.out.symm,by decide,fun p hp=>(by cases hp),.inl rfl⟩⟩
 ·obtain ⟨i,q,σ,hfr,rfl,rfl,hD⟩:=hJ
  obtain ⟨u,rfl⟩:=hfr.form
  clear hfr
  clear HI0 HW1 HW2 hs1 hs2
  have hlab:=hD.out.lab
  have hrd:=hD.out.inv.rd
  have hsz:=hD.out.inv.size
  have He:=anc hD.out.inv.low
  have Ep:=anc hD.out.inv.res
  have JM:=anc hD.out.run
  have Hf:=anc hrd
  have his:=hD.out.is
  have SH:=anc (HE.out.below He.out)
  have ha1:w3.cell? ⟨w.heap.size+1,1,none⟩=some (.slice σ.A σ.ps.length σ.c):=by simp [World.cell?,hrd]
  have ha2:w3.cell? ⟨w.heap.size+1,2,none⟩=some (.slice σ.B σ.dn.length σ.cB):=by simp [World.cell?,hrd]
  have hwh:=anc (FY hrd)
  obtain ⟨⟨z0,z1,z2,z3,z4⟩,y0,y1,y2,y3,y4⟩:=ay Ep.out
  clear hrd
  rcases hlab with rfl | ⟨rfl,hl0⟩ | ⟨rfl,hl0,hl1⟩ | ⟨rfl,hl0,hl1⟩
  ·refine ⟨_,rfl,?_⟩
   by_cases hlt:i<s.size
   ·have ny:=anc (oZ hlt)
    have hge:decide ((s.size:Int)≤(i:Int))=false:=by simp;omega
    cases h32:((s[i].toNat:Int)==32)
    ·have n32:=anc (show ¬((bt s i).toNat:Int)=32 by rw [ny.out];simpa using h32)
     cases h10:((s[i].toNat:Int)==10)
     ·have n10:=anc (show ¬((bt s i).toNat:Int)=10 by rw [ny.out];simpa using h10)
      cases xK:((s[i].toNat:Int)==40)
      ·have n40:=anc (show ¬((bt s i).toNat:Int)=40 by rw [ny.out];simpa using xK)
       cases KI:((s[i].toNat:Int)==41)
       ·have n41:=anc (show ¬((bt s i).toNat:Int)=41 by rw [ny.out];simpa using KI)
        have hone:=one_any hP hH s i hlt hs (w.heap.size+1) σ.dn.length σ.cB σ.B (.slice σ.A σ.ps.length σ.c) w3 SH.out Hf.out
        have hend:=Cb (s:=s) (decide (0<σ.dn.length)) hlt
        have HBAD:=anc (fun hw=>(E5 (op:=σ.ps.map Prod.fst) (dn:=σ.dn.map Prod.fst) hlt n32.out n10.out n40.out n41.out hw))
        have JO:=anc (fun hw=>(vM (op:=σ.ps.map Prod.fst) (dn:=σ.dn.map Prod.fst) hlt n32.out n10.out n40.out n41.out hw))
        rw [List.length_map] at HBAD JO
        have HDL:Hid (decide (0<σ.dn.length)=false→σ.dn=[]):=anc (fun h=>by simp at h;exact h)
        generalize hrr:dO s i (decide (0<σ.dn.length))=r at *
        obtain ⟨t,en,why,pl⟩:=r
        simp only at hend HBAD JO
        unfold YG at hone
        simp only at hone
        have agi:=anc hone
        have UG:=anc hend
        clear hone hend hrr n32 n10 n40 n41 ny
        go_wp2_with fail
        refine (agi.out).mono ?_
        rintro e w4 ⟨⟨rfl,hkids⟩,hb4⟩
        obtain ⟨w5,wI⟩:∃ w5,w5=w4.alloc (.cells #[.int .i64 t.k,.string t.s,.int .i64 t.n,.slice none 0 0,.int .i64 t.at_] 71):=⟨_,rfl⟩
        have hb5:Below w4.heap.size w4 w5:=by rw [wI];exact (anl _ _).alloc (ank _) _
        have WW:w5.heap[w4.heap.size]?=some (.cells #[.int .i64 t.k,.string t.s,.int .i64 t.n,.slice none 0 0,.int .i64 t.at_] 71 (0,0)):=by rw [wI];exact anm w4 _
        have lS:=(hD.out.inv.below hb4).below hb5
        have JP:=anc (fun hd=>add_any lS (t,none,0) ⟨by simp only [hkids];exact ank _,by simp only [hkids];exact .nil _⟩ hD.out.few (fun p hp=>by have:=hD.out.kids p hp;omega) hd)
        simp only [hkids,List.length_nil] at JP
        have uG:=anc lS
        have Ep:=anc lS.res
        have He:=anc lS.low
        have Oe:=anc WW
        have Rw:=anc wI
        have HKT:=anc hkids
        clear hb4 hb5 WW lS wI hkids z0 z1 z2 z3 z4 y0 y1 y2 y3 y4
        go_upto_region 13 with (fail)
        rw [←Rw.out]
        by_cases hy:why=0
        ·subst hy
         obtain ⟨he1,he2,hwf⟩:=UG.out.2.1 rfl
         have hdn:=HDL.out hwf
         have hadd:=anc (JP.out (fun _=>hdn))
         have AX:=anc ((JO.out rfl).symm.trans JM.out)
         obtain ⟨⟨k0,k1,k2,k3,k4⟩,_,_,_,_,_⟩:=ay Oe.out
         clear JP HBAD JO HDL
         go_wp2_with fail
         refine (hadd.out).mono ?_
         rintro e w6 ⟨rfl,σ2,nN,Dv,hlen2,_,JQ⟩
         have hlen3:σ2.ps.length≤12:=by rw [hlen2];exact hD.out.few
         have wU:=anc nN
         have HRU:Hid (bf s (σ2.ps.map Prod.fst) (σ2.dn.map Prod.fst) en.toNat=R):=anc (by
          have h1:=congrArg Prod.fst Dv
          have h2:=congrArg Prod.snd Dv
          simp only at h1 h2
          rw [h1,h2]
          exact AX.out)
         have KH:Hid (∀ p∈σ2.ps,p.1.kids.length≤en.toNat):=anc (fun p hp=>by
          obtain ⟨p0,hp0,h⟩:=JQ p hp
          have:=hD.out.kids p0 hp0
          omega)
         clear nN Dv hlen2 JQ hdn
         go_wp2_with fail
         go_step3
         (try simp only [Exit.inBlock,Exit.then,aU])
         refine ⟨2*(s.size-(en.toNat))+(if (1:Nat)=1 then 1 else 0),?_,en.toNat,en,σ2,⟨_,rfl,by kernel_rfl,by kernel_rfl,by kernel_rfl,by kernel_rfl,by kernel_rfl⟩,?_,rfl,anc (⟨wU.out,by omega,HRU.out,hlen3,KH.out,.inl rfl⟩)⟩
         ·simp only [if_true,reduceCtorEq,Nat.reduceEqDiff,if_false];omega
         ·omega
        ·have hyb:(why != 0)=true:=by simpa using hy
         have HQ:=anc ((JM.out.symm.trans (HBAD.out hy)))
         obtain ⟨⟨z0,z1,z2,z3,z4⟩,y0,y1,y2,y3,y4⟩:=ay Ep.out
         clear JP HBAD JO HDL hy
         go_wp2_with fail
         (try simp only [Exit.inBlock,Exit.then,aU])
         refine ano (results_read rfl rfl rfl rfl (aB Ep.out)) rfl ?_
         exact ⟨.none_ (HQ.out) rfl,aC He.out (ank _)⟩
       ·have y41:=anc (show ((bt s i).toNat:Int)=41 by rw [ny.out];simpa using KI)
        go_wp2_with fail
        go_step3
        (try simp only [Exit.inBlock,Exit.then,aU])
        refine ⟨2*(s.size-(i))+(if (3:Nat)=1 then 1 else 0),?_,i,(i:Int),σ,⟨_,rfl,by kernel_rfl,by kernel_rfl,by kernel_rfl,by kernel_rfl,by kernel_rfl⟩,?_,rfl,anc (⟨hD.out.inv,his,hD.out.run,hD.out.few,hD.out.kids,.inr (.inr (.inr ⟨rfl,hlt,y41.out⟩))⟩)⟩
        ·simp only [if_true,reduceCtorEq,Nat.reduceEqDiff,if_false];omega
        ·omega
      ·have y40:=anc (show ((bt s i).toNat:Int)=40 by rw [ny.out];simpa using xK)
       go_wp2_with fail
       go_step3
       (try simp only [Exit.inBlock,Exit.then,aU])
       refine ⟨2*(s.size-(i))+(if (2:Nat)=1 then 1 else 0),?_,i,(i:Int),σ,⟨_,rfl,by kernel_rfl,by kernel_rfl,by kernel_rfl,by kernel_rfl,by kernel_rfl⟩,?_,rfl,anc (⟨hD.out.inv,his,hD.out.run,hD.out.few,hD.out.kids,.inr (.inr (.inl ⟨rfl,hlt,y40.out⟩))⟩)⟩
       ·simp only [if_true,reduceCtorEq,Nat.reduceEqDiff,if_false];omega
       ·omega
     ·have AX:=anc ((nV (op:=σ.ps.map Prod.fst) (dn:=σ.dn.map Prod.fst) hlt (.inr (by rw [ny.out];simpa using h10))).symm.trans JM.out)
      go_wp2_with fail
      go_step3
      (try simp only [Exit.inBlock,Exit.then,aU])
      refine ⟨2*(s.size-(i+1))+(if (1:Nat)=1 then 1 else 0),?_,i+1,((i:Int)+1),σ,⟨_,rfl,by kernel_rfl,by kernel_rfl,by kernel_rfl,by kernel_rfl,by kernel_rfl⟩,?_,rfl,anc (⟨hD.out.inv,by omega,AX.out,hD.out.few,fun p hp=>Nat.le_succ_of_le (hD.out.kids p hp),.inl rfl⟩)⟩
      ·simp only [if_true,reduceCtorEq,Nat.reduceEqDiff,if_false];omega
      ·omega
    ·have AX:=anc ((nV (op:=σ.ps.map Prod.fst) (dn:=σ.dn.map Prod.fst) hlt (.inl (by rw [ny.out];simpa using h32))).symm.trans JM.out)
     go_wp2_with fail
     go_step3
     (try simp only [Exit.inBlock,Exit.then,aU])
     refine ⟨2*(s.size-(i+1))+(if (1:Nat)=1 then 1 else 0),?_,i+1,((i:Int)+1),σ,⟨_,rfl,by kernel_rfl,by kernel_rfl,by kernel_rfl,by kernel_rfl,by kernel_rfl⟩,?_,rfl,anc (⟨hD.out.inv,by omega,AX.out,hD.out.few,fun p hp=>Nat.le_succ_of_le (hD.out.kids p hp),.inl rfl⟩)⟩
     ·simp only [if_true,reduceCtorEq,Nat.reduceEqDiff,if_false];omega
     ·omega
   ·go_wp2_with fail
    go_step3
    (try simp only [Exit.inBlock,Exit.then,aU])
    refine ⟨2*(s.size-(i))+(if (0:Nat)=1 then 1 else 0),?_,i,(i:Int),σ,⟨_,rfl,by kernel_rfl,by kernel_rfl,by kernel_rfl,by kernel_rfl,by kernel_rfl⟩,?_,rfl,anc (⟨hD.out.inv,his,hD.out.run,hD.out.few,hD.out.kids,.inr (.inl ⟨rfl,hlt⟩)⟩)⟩
    ·simp only [if_true,reduceCtorEq,Nat.reduceEqDiff,if_false];omega
    ·omega
  ·refine ⟨_,rfl,?_⟩
   obtain ⟨m,hm⟩:∃ m,σ.ps.length=m:=⟨_,rfl⟩
   obtain ⟨dl,hdl⟩:∃ dl,σ.dn.length=dl:=⟨_,rfl⟩
   rw [hm] at ha1
   rw [hdl] at ha2 hwh
   have AX:=anc ((yX (op:=σ.ps.map Prod.fst) (dn:=σ.dn.map Prod.fst) hl0).symm.trans JM.out)
   rw [List.length_map,hm] at AX
   by_cases h0:0<m
   ·have d0:decide (0<(m:Int))=true:=by simpa using h0
    have HQ:=anc (AX.out.symm.trans (if_pos h0))
    go_wp2_with fail
    (try simp only [Exit.inBlock,Exit.then,aU])
    refine ano (results_read rfl rfl rfl rfl (aB Ep.out)) rfl ?_
    exact ⟨.none_ (HQ.out) rfl,aC He.out (ank _)⟩
   ·have d0:decide (0<(m:Int))=false:=by simpa using h0
    have AX:=anc ((if_neg h0).symm.trans AX.out)
    rcases Nat.eq_zero_or_pos dl with hd0 | hd0
    ·have hdn:σ.dn=[]:=List.eq_nil_of_length_eq_zero (by omega)
     have JR:decide (0<dl)=false:=decide_eq_false (by omega)
     rw [JR] at hwh
     have HQ:=anc (show R=(aH,10,(s.size:Int)) by have:=AX.out;rw [hdn] at this;exact this.symm)
     clear JR
     go_wp2_with fail
     refine (hwh.out).mono ?_
     rintro e w' ⟨rfl,rfl⟩
     go_wp2_with fail
     (try simp only [Exit.inBlock,Exit.then,aU])
     refine ano (results_read rfl rfl rfl rfl (aB Ep.out)) rfl ?_
     exact ⟨.none_ (HQ.out) rfl,aC He.out (ank _)⟩
    ·have JR:decide (0<dl)=true:=by simpa using hd0
     rw [JR] at hwh
     obtain ⟨x,rest,hdn⟩:∃ x rest,σ.dn=x::rest:=by
      cases h:σ.dn with
      | nil=>rw [h] at hdl;simp at hdl;omega
      | cons x rest=>exact ⟨x,rest,rfl⟩
     have HQ:=anc (show R=(x.1,0,0) by have:=AX.out;rw [hdn] at this;exact this.symm)
     have hx0:σ.dn[0]?=some x:=by rw [hdn];rfl
     have hdk:=anc (hD.out.inv.Xu x (by rw [hdn];exact List.mem_cons_self))
     have ho:=hD.out.inv.YI
     rw [hdl] at ho
     obtain ⟨gB,cB',hv,_⟩:=ho.form hd0
     have hB:σ.B=some ⟨gB,0,none⟩:=by injection hv
     rw [hB] at ha2 ho
     obtain ⟨f0,f1,f2,f3,f4⟩:=mQ σ.dn 0 x hx0
     have b0:=(ho.cellAt 0 (by omega)).trans f0
     have b1:=(ho.cellAt 1 (by omega)).trans f1
     have b2:=(ho.cellAt 2 (by omega)).trans f2
     have b3:=(ho.cellAt 3 (by omega)).trans f3
     have b4:=(ho.cellAt 4 (by omega)).trans f4
     have alu:(0:Int)<(dl:Int):=by omega
     clear JR ho hv hdn hx0 f0 f1 f2 f3 f4
     obtain ⟨⟨xk,xs,xn,xl,xa⟩,xA,xc⟩:=x
     simp only [T.k,T.s,T.n,T.kids,T.at_] at b0 b1 b2 b3 b4 hdk
     obtain ⟨xln,QO⟩:∃ n,n=xl.length:=⟨_,rfl⟩
     rw [←QO] at b3 hdk
     have BO:=anc QO
     clear QO
     go_wp2_with fail
     refine (hwh.out).mono ?_
     rintro e w' ⟨rfl,rfl⟩
     go_wp2_with fail
     (try simp only [Exit.inBlock,Exit.then,aU])
     refine ano (results_read rfl rfl rfl rfl (aB Ep.out)) rfl ?_
     refine ⟨?_,aC He.out (ank _)⟩
     rw [HQ.out]
     refine ⟨xA,xc,?_,?_,?_⟩
     ·simp only [T.k,T.s,T.n,T.kids,T.at_];rw [←BO.out];rfl
     ·simp only [T.kids];rw [←BO.out];exact hdk.out.1
     ·simp only [T.kids]
      refine iO hdk.out.2 (fun k hk=>kZ (by have:=hk.1;omega)) (fun k hk=>⟨by have:=hk.1;omega,by simpa [World.setCell] using hk.2.1⟩)
  ·refine ⟨_,rfl,?_⟩
   obtain ⟨m,hm⟩:∃ m,σ.ps.length=m:=⟨_,rfl⟩
   have AX:=anc ((vK (op:=σ.ps.map Prod.fst) (dn:=σ.dn.map Prod.fst) hl0 hl1).symm.trans JM.out)
   rw [List.length_map,hm,List.length_map] at AX
   have hfew:=hD.out.few
   rw [hm] at ha1 hfew
   have HM:=anc hm
   cases h12:decide (12≤(m:Int))
   ·have n12:¬12≤m:=by have:=of_decide_eq_false h12;omega
    have AX:=anc ((if_neg n12).symm.trans AX.out)
    cases JR:decide (0<σ.dn.length)
    ·rw [JR] at hwh
     have hdn:σ.dn=[]:=by
      have:=of_decide_eq_false JR
      exact List.eq_nil_of_length_eq_zero (by omega)
     have AX:=anc ((if_neg (of_decide_eq_false JR)).symm.trans AX.out)
     have HGQ:Hid (w3.heap[w.heap.size+1]?=some (.cells #[.string s,.slice σ.A m σ.c,.slice σ.B σ.dn.length σ.cB] 102 (0,0))):=anc (by have:=Hf.out;rw [hm] at this;exact this)
     have HKQ:Hid (w3.ownsRow (w.heap.size+2) 71 5 (.slice σ.A m σ.c) m (aO σ.ps)):=anc (by have:=hD.out.inv.own;rw [hm] at this;exact this)
     have UB:∀ ad:Addr,σ.A=some ad→ad.block≠w.heap.size+1:=fun ad e=>by have:=(iM HKQ.out ⟨ad,e,rfl⟩).1;omega
     have qZ:Hid (Below w3.heap.size w3 w3):=anc (anl _ _)
     have lZ:Hid (∀ w':World,w'.heap[w.heap.size+1]?=w3.heap[w.heap.size+1]?→w'.cell? ⟨w.heap.size+1,1,none⟩=some (.slice σ.A m σ.c)):=anc (fun w' h1=>(anw h1).trans ha1)
     obtain ⟨i0,hi,hz0,hz1,hz2⟩:=info_parts mV
     have ew:IntKind.i64.wrap (m:Int)=(m:Int):=by unfold IntKind.wrap;simp [IntKind.bits,IntKind.signed];omega
     have el:(m:Int)<(m:Int)+1:=by omega
     clear JR
     go_upto_region 19 with (fail)
     go_wp2_with fail
     refine (hwh.out).mono ?_
     rintro e w' ⟨rfl,rfl⟩
     clear hm
     go_upto_region 21 with (fail)
     refine aj.dU (fun w'=>w'.cell? ⟨w.heap.size+1,1,none⟩=some (.slice σ.A m σ.c)) [9,10,11,12,13] (by kernel_rfl) (lZ.out _ rfl) (fun hHeld=>?_)
     refine aj.ae (i:=0) (C:=[0,9,10,11,12,13]) (v:=?aiO) rfl (by kernel_rfl) (by kernel_rfl) (by kernel_rfl) (by kernel_rfl) (fun _ _ _ h=>h) (Or.inl ⟨by rfl,?aag⟩) (by assumption) ?_
     case aag=>(intro w1 hSw;(try dsimp only at hSw);go_simp;try with_reducible rfl)
     simp only [ane,anf,Act.put,anh,ani,anj]
     refine aj.ae (i:=1) (C:=[1,9,10,11,12,13]) (v:=?aiP) rfl (by kernel_rfl) (by kernel_rfl) (by kernel_rfl) (by kernel_rfl) (fun _ _ _ h=>h) (Or.inl ⟨by rfl,?aah⟩) (by assumption) ?_
     case aah=>(intro w1 hSw;(try dsimp only at hSw);go_simp;try with_reducible rfl)
     simp only [ane,ang,anf,Act.put,anh,ani,anj]
     refine aj.ae (i:=2) (C:=[2,9,10,11,12,13]) (v:=?aiQ) rfl (by kernel_rfl) (by kernel_rfl) (by kernel_rfl) (by kernel_rfl) (fun _ _ _ h=>h) (Or.inl ⟨by rfl,?aai⟩) (by assumption) ?_
     case aai=>(intro w1 hSw;(try dsimp only at hSw);go_simp;try with_reducible rfl)
     simp only [ane,ang,anf,Act.put,anh,ani,anj]
     refine aj.ae (i:=3) (C:=[3,9,10,11,12,13]) (v:=?aiR) rfl (by kernel_rfl) (by kernel_rfl) (by kernel_rfl) (by kernel_rfl) (fun _ _ _ h=>h) (Or.inl ⟨by rfl,?aaj⟩) (by assumption) ?_
     case aaj=>(intro w1 hSw;(try dsimp only at hSw);go_simp;try with_reducible rfl)
     simp only [ane,ang,anf,Act.put,anh,ani,anj]
     refine aj.ae (i:=4) (C:=[4,9,10,11,12,13]) (v:=?aiS) rfl (by kernel_rfl) (by kernel_rfl) (by kernel_rfl) (by kernel_rfl) (fun _ _ _ h=>h) (Or.inl ⟨by rfl,?aak⟩) (by assumption) ?_
     case aak=>(intro w1 hSw;(try dsimp only at hSw);go_simp;try with_reducible rfl)
     simp only [ane,ang,anf,Act.put,anh,ani,anj]
     refine aj.ae (i:=5) (C:=[5,9,10,11,12,13]) (v:=?aiT) rfl (by kernel_rfl) (by kernel_rfl) (by kernel_rfl) (by kernel_rfl) (fun _ _ _ h=>h) (Or.inl ⟨by rfl,?aal⟩) (by assumption) ?_
     case aal=>(intro w1 hSw;(try dsimp only at hSw);go_simp;try with_reducible rfl)
     simp only [ane,ang,anf,Act.put,anh,ani,anj]
     refine aj.ae (i:=6) (C:=[6,9,10,11,12,13]) (v:=?aiU) rfl (by kernel_rfl) (by kernel_rfl) (by kernel_rfl) (by kernel_rfl) (fun _ _ _ h=>h) (Or.inl ⟨by rfl,?aam⟩) (by assumption) ?_
     case aam=>(intro w1 hSw;(try dsimp only at hSw);go_simp;try with_reducible rfl)
     simp only [ane,ang,anf,Act.put,anh,ani,anj]
     refine aj.au (rs:=[7]) (by kernel_rfl) (by simp) ?_
     refine (aj.ah.cons rfl (fun K hK=>?_) aj.ah.nil)
     refine sU _ rfl rfl ?_
     refine hK.out _ _ (lZ.out _ (ant _ _ _ (by simp;omega))) (fun hHeld=>?_)
     clear hK K
     simp only [ane,ang,anf,Act.put,anh,ani,anj,World.size_alloc,World.size_drew]
     refine aj.au (rs:=[8]) (by kernel_rfl) (by simp) ?_
     refine (aj.ah.cons rfl (fun K hK=>?_) aj.ah.nil)
     refine step_append_lies _ rfl _ _ 69 rfl (w.heap.size+2) 71 i0 _ 5 64 Tryz.underlying69 hi hz0 hz1 hz2 rfl (by decide) (.slice σ.A m σ.c) m (aO σ.ps) rfl (own_below HKQ.out ((anl w3.heap.size w3).drew.trans ((anl w3.heap.size w3.drew).alloc (ank _) (.cells #[.int .i64 0,.string ⟨#[]⟩,.int .i64 0,.slice none 0 0,.int .i64 0] 71)))) ⟨w3.heap.size,0,none⟩ 1 1 [.int .i64 0,.string ⟨#[]⟩,.int .i64 0,.slice none 0 0,.int .i64 0] rfl rfl (World.news_of_block (anm w3.drew (.cells #[.int .i64 0,.string ⟨#[]⟩,.int .i64 0,.slice none 0 0,.int .i64 0] 71))) ?a0 (by decide) ?a1 ?a2 ?a3 _ rfl ?_
     case a0=>(intro u hu;simp only [List.mem_cons,List.not_mem_nil,or_false] at hu;rcases hu with rfl | rfl | rfl | rfl | rfl <;> rfl)
     case a1=>(unfold maxLen;omega)
     case a2=>omega
     case a3=>(simp;omega)
     intro g5 cap5 w5 hown5 bI gY yU
     have hkeep:∀ b,b<w3.heap.size→(∀ ad:Addr,(σ.A:Option Addr)=some ad→ad.block≠b)→w5.heap[b]?=w3.heap[b]?:=fun b hb hA=>(bI.block b (by simp;omega) (fun e=>Du hA e)).trans (ant w3.drew _ b hb)
     have hk1:=hkeep (w.heap.size+1) (by omega) (UB)
     have KL:Hid (Aside (fun b=>∃ ad:Addr,(σ.A:Option Addr)=some ad∧ad.block=b) w3 w5):=anc (((Aside.of_below qZ.out).drew.alloc _).grown bI (fun b e _=>mF e))
     have qx:Hid ((∃ ad:Addr,(σ.A:Option Addr)=some ad∧ad.block=g5)∨w3.heap.size≤g5):=anc (gY.elim (fun e=>Or.inl (mF e)) (fun e=>Or.inr (by simp at e;omega)))
     have hg5:Hid (w5.heap[w.heap.size+1]?=some (.cells #[.string s,.slice σ.A m σ.c,.slice σ.B σ.dn.length σ.cB] 102 (0,0))):=anc (hk1.trans HGQ.out)
     have hne5:g5≠(w.heap.size+1):=qx.out.elim (fun h=>h.elim fun ad e2=>by have:=UB ad e2.1;omega) (fun h=>by omega)
     have fV:=anc hown5
     have hq:=Bl (n:=m) (qs:=σ.ps) HKQ.out
     have hzc:∀ i,i<5→(aO σ.ps++[.int .i64 0,.string ⟨#[]⟩,.int .i64 0,.slice none 0 0,.int .i64 0])[m*5+i]?=([.int .i64 0,.string ⟨#[]⟩,.int .i64 0,.slice none 0 0,.int .i64 0]:List Value)[i]?:=fun i hi=>by rw [List.getElem?_append_right (by rw [fF,hq];omega),fF,hq,show m*5+i-m*5=i by omega]
     have hrc:w5.cell? ⟨w.heap.size+1,1,none⟩=some (.slice σ.A m σ.c):=by simp [World.cell?,hg5.out]
     have hrf:w5.frozen? ⟨w.heap.size+1,1,none⟩=false:=by simp [World.frozen?,hg5.out]
     have d0:=(hown5.cellAt (m*5) (by omega)).trans (hzc 0 (by decide))
     have r0:=hown5.frozenAt (m*5)
     have d1:=(hown5.cellAt (m*5+1) (by omega)).trans (hzc 1 (by decide))
     have r1:=hown5.frozenAt (m*5+1)
     have d2:=(hown5.cellAt (m*5+2) (by omega)).trans (hzc 2 (by decide))
     have r2:=hown5.frozenAt (m*5+2)
     have d3:=(hown5.cellAt (m*5+3) (by omega)).trans (hzc 3 (by decide))
     have r3:=hown5.frozenAt (m*5+3)
     have d4:=(hown5.cellAt (m*5+4) (by omega)).trans (hzc 4 (by decide))
     have r4:=hown5.frozenAt (m*5+4)
     simp only [List.getElem?_cons_zero,List.getElem?_cons_succ] at d0 d1 d2 d3 d4
     have Xk:(w5.setCell ⟨w.heap.size+1,1,none⟩ (.slice (some ⟨g5,0,none⟩) (m+1) cap5)).cell? ⟨g5,m*5,none⟩=_:=(anw (ann w5 ⟨w.heap.size+1,1,none⟩ (.slice (some ⟨g5,0,none⟩) (m+1) cap5) g5 hne5)).trans d0
     have Xl:(w5.setCell ⟨w.heap.size+1,1,none⟩ (.slice (some ⟨g5,0,none⟩) (m+1) cap5)).frozen? ⟨g5,m*5,none⟩=false:=(World.frozen?_of_block (ann w5 ⟨w.heap.size+1,1,none⟩ (.slice (some ⟨g5,0,none⟩) (m+1) cap5) g5 hne5)).trans r0
     have dd1:(w5.setCell ⟨w.heap.size+1,1,none⟩ (.slice (some ⟨g5,0,none⟩) (m+1) cap5)).cell? ⟨g5,m*5+1,none⟩=_:=(anw (ann w5 ⟨w.heap.size+1,1,none⟩ (.slice (some ⟨g5,0,none⟩) (m+1) cap5) g5 hne5)).trans d1
     have Xm:(w5.setCell ⟨w.heap.size+1,1,none⟩ (.slice (some ⟨g5,0,none⟩) (m+1) cap5)).frozen? ⟨g5,m*5+1,none⟩=false:=(World.frozen?_of_block (ann w5 ⟨w.heap.size+1,1,none⟩ (.slice (some ⟨g5,0,none⟩) (m+1) cap5) g5 hne5)).trans r1
     have Xn:(w5.setCell ⟨w.heap.size+1,1,none⟩ (.slice (some ⟨g5,0,none⟩) (m+1) cap5)).cell? ⟨g5,m*5+2,none⟩=_:=(anw (ann w5 ⟨w.heap.size+1,1,none⟩ (.slice (some ⟨g5,0,none⟩) (m+1) cap5) g5 hne5)).trans d2
     have Xo:(w5.setCell ⟨w.heap.size+1,1,none⟩ (.slice (some ⟨g5,0,none⟩) (m+1) cap5)).frozen? ⟨g5,m*5+2,none⟩=false:=(World.frozen?_of_block (ann w5 ⟨w.heap.size+1,1,none⟩ (.slice (some ⟨g5,0,none⟩) (m+1) cap5) g5 hne5)).trans r2
     have Xp:(w5.setCell ⟨w.heap.size+1,1,none⟩ (.slice (some ⟨g5,0,none⟩) (m+1) cap5)).cell? ⟨g5,m*5+3,none⟩=_:=(anw (ann w5 ⟨w.heap.size+1,1,none⟩ (.slice (some ⟨g5,0,none⟩) (m+1) cap5) g5 hne5)).trans d3
     have Xq:(w5.setCell ⟨w.heap.size+1,1,none⟩ (.slice (some ⟨g5,0,none⟩) (m+1) cap5)).frozen? ⟨g5,m*5+3,none⟩=false:=(World.frozen?_of_block (ann w5 ⟨w.heap.size+1,1,none⟩ (.slice (some ⟨g5,0,none⟩) (m+1) cap5) g5 hne5)).trans r3
     have Xr:(w5.setCell ⟨w.heap.size+1,1,none⟩ (.slice (some ⟨g5,0,none⟩) (m+1) cap5)).cell? ⟨g5,m*5+4,none⟩=_:=(anw (ann w5 ⟨w.heap.size+1,1,none⟩ (.slice (some ⟨g5,0,none⟩) (m+1) cap5) g5 hne5)).trans d4
     have Xt:(w5.setCell ⟨w.heap.size+1,1,none⟩ (.slice (some ⟨g5,0,none⟩) (m+1) cap5)).frozen? ⟨g5,m*5+4,none⟩=false:=(World.frozen?_of_block (ann w5 ⟨w.heap.size+1,1,none⟩ (.slice (some ⟨g5,0,none⟩) (m+1) cap5) g5 hne5)).trans r4
     have hpg:(((((w5.setCell ⟨g5,m*5,none⟩ (.int .i64 1)).setCell ⟨g5,m*5+1,none⟩ (.string ⟨#[]⟩)).setCell ⟨g5,m*5+2,none⟩ (.int .i64 0)).setCell ⟨g5,m*5+3,none⟩ (.slice none 0 0)).setCell ⟨g5,m*5+4,none⟩ (.int .i64 (i:Int))).heap[w.heap.size+1]?=w5.heap[w.heap.size+1]?:=(ann _ ⟨g5,m*5+4,none⟩ _ (w.heap.size+1) (Ne.symm hne5)).trans ((ann _ ⟨g5,m*5+3,none⟩ _ (w.heap.size+1) (Ne.symm hne5)).trans ((ann _ ⟨g5,m*5+2,none⟩ _ (w.heap.size+1) (Ne.symm hne5)).trans ((ann _ ⟨g5,m*5+1,none⟩ _ (w.heap.size+1) (Ne.symm hne5)).trans (ann _ ⟨g5,m*5,none⟩ _ (w.heap.size+1) (Ne.symm hne5)))))
     have hpc:(((((w5.setCell ⟨g5,m*5,none⟩ (.int .i64 1)).setCell ⟨g5,m*5+1,none⟩ (.string ⟨#[]⟩)).setCell ⟨g5,m*5+2,none⟩ (.int .i64 0)).setCell ⟨g5,m*5+3,none⟩ (.slice none 0 0)).setCell ⟨g5,m*5+4,none⟩ (.int .i64 (i:Int))).cell? ⟨w.heap.size+1,1,none⟩=w5.cell? ⟨w.heap.size+1,1,none⟩:=anw hpg
     rw [hrc] at hpc
     have UE:(((((w5.setCell ⟨g5,m*5,none⟩ (.int .i64 1)).setCell ⟨g5,m*5+1,none⟩ (.string ⟨#[]⟩)).setCell ⟨g5,m*5+2,none⟩ (.int .i64 0)).setCell ⟨g5,m*5+3,none⟩ (.slice none 0 0)).setCell ⟨g5,m*5+4,none⟩ (.int .i64 (i:Int))).frozen? ⟨w.heap.size+1,1,none⟩=w5.frozen? ⟨w.heap.size+1,1,none⟩:=World.frozen?_of_block hpg
     rw [hrf] at UE
     have HD:=anc (And.intro d0 (And.intro d1 (And.intro d2 (And.intro d3 (And.intro d4 (And.intro r0 (And.intro r1 (And.intro r2 (And.intro r3 (And.intro r4 (And.intro hpc UE)))))))))))
     have oD:=anc (And.intro Xk (And.intro dd1 (And.intro Xn (And.intro Xp (And.intro Xr (And.intro Xl (And.intro Xm (And.intro Xo (And.intro Xq (And.intro Xt (And.intro hrc hrf)))))))))))
     have hF1:=anc (Am (x:=((.mk 1 ⟨#[]⟩ 0 [] (i:Int):T),none,0)) (o:=1) KL.out qx.out fV.out hg5.out hne5 hq)
     have hF2:=anc (sS (x:=((.mk 1 ⟨#[]⟩ 0 [] (i:Int):T),none,0)) (o:=1) KL.out qx.out fV.out hg5.out hne5 hq)
     simp only [T.k,T.s,T.n,T.kids,T.at_] at hF1 hF2
     simp only [List.length_nil] at hF1 hF2
     clear hown5 bI gY hkeep hzc hpg KL qx fV d0 d1 d2 d3 d4 r0 r1 r2 r3 r4 Xk dd1 Xn Xp Xr Xl Xm Xo Xq Xt hpc UE hrc hrf
     refine hK.out _ _ (lZ.out _ hk1) (fun hHeld=>?_)
     clear hK K hk1
     simp only [ane,ang,anf,Act.put,anh,ani,anj]
     refine aj.jA (i:=9) (v:=?aiV) (by decide) rfl (by kernel_rfl) (by kernel_rfl) (by kernel_rfl) (fun _ _ _ h=>h) (Or.inl ⟨by rfl,?aan⟩) ?_
     case aan=>(intro w1 hSw;go_simp;try with_reducible rfl)
     simp only [ane,ang,anf,Act.put,anh,ani,anj]
     refine aj.jA (i:=11) (v:=?aiW) (by decide) rfl (by kernel_rfl) (by kernel_rfl) (by kernel_rfl) (fun _ _ _ h=>h) (Or.inl ⟨by rfl,?aao⟩) ?_
     case aao=>(intro w1 hSw;go_simp;try with_reducible rfl)
     simp only [ane,ang,anf,Act.put,anh,ani,anj]
     refine aj.jA (i:=12) (v:=?agk) (by decide) rfl (by kernel_rfl) (by kernel_rfl) (by kernel_rfl) (fun _ _ _ h=>h) (Or.inl ⟨by rfl,?Xv⟩) ?_
     case Xv=>(intro w1 hSw;go_simp;try with_reducible rfl)
     simp only [ane,ang,anf,Act.put,anh,ani,anj]
     refine aj.au (rs:=[10,13]) (by kernel_rfl) (by simp) ?_
     refine aj.ah.late (by decide) rfl (fun K hK=>?_) (aj.ah.late (by decide) rfl (fun K hK=>?_) aj.ah.nil)
     ·
      have hm:=HM.out
      obtain ⟨d0,d1,d2,d3,d4,r0,r1,r2,r3,r4,hpc,UE⟩:=HD.out
      clear oD hF2 hHeld lZ
      simp only [ane,ang,anf]
      go_simp
      refine hK.out _ _ ?_
      clear hK K
      refine aj.au (rs:=[13]) (by kernel_rfl) (by simp) ?_
      refine aj.ah.late (by decide) rfl (fun K hK=>?_) aj.ah.nil
      simp only [ane,ang,anf]
      go_simp
      refine hK.out _ _ ?_
      clear hK K
      refine aj.dw (by kernel_rfl) ?_ _
      have uN:=hF1
      clear d0 d1 d2 d3 d4 r0 r1 r2 r3 r4 hpc UE
      obtain ⟨g',cap',hr⟩:=hD.out.inv.push hdn (t:=(.mk 1 ⟨#[]⟩ 0 [] (i:Int):T)) rfl (by rw [hm];exact uN.out)
      obtain ⟨σ2,HR2⟩:∃ σ2:St,Hid (RInv s w σ2 _∧σ2.ps=σ.ps++[((.mk 1 ⟨#[]⟩ 0 [] (i:Int):T),none,0)]∧σ2.dn=σ.dn):=⟨_,anc ⟨hr,rfl,rfl⟩⟩
      clear hr uN
      go_wp2_with fail
      go_step3
      (try simp only [Exit.inBlock,Exit.then,aU])
      refine ⟨2*(s.size-(i+1))+(if (1:Nat)=1 then 1 else 0),?_,i+1,((i:Int)+1),σ2,⟨_,rfl,by kernel_rfl,by kernel_rfl,by kernel_rfl,by kernel_rfl,by kernel_rfl⟩,?_,rfl,anc (⟨HR2.out.1,by omega,by rw [HR2.out.2.1,HR2.out.2.2,List.map_append];exact AX.out,by rw [HR2.out.2.1,List.length_append,hm];simp only [List.length_singleton];omega,fun p hp=>(List.mem_append.1 (HR2.out.2.1 ▸ hp)).elim (fun hp=>Nat.le_succ_of_le (hD.out.kids p hp)) (fun hp=>by rw [List.mem_singleton.1 hp];exact Nat.zero_le _),.inl rfl⟩)⟩
      ·simp only [if_true,reduceCtorEq,Nat.reduceEqDiff,if_false];omega
      ·omega
     ·
      have hm:=HM.out
      obtain ⟨Xk,dd1,Xn,Xp,Xr,Xl,Xm,Xo,Xq,Xt,hrc,hrf⟩:=oD.out
      clear HD hF1 hHeld lZ
      simp only [ane,ang,anf]
      go_simp
      refine hK.out _ _ ?_
      clear hK K
      refine aj.au (rs:=[10]) (by kernel_rfl) (by simp) ?_
      refine aj.ah.late (by decide) rfl (fun K hK=>?_) aj.ah.nil
      simp only [ane,ang,anf]
      go_simp
      refine hK.out _ _ ?_
      clear hK K
      refine aj.dw (by kernel_rfl) ?_ _
      have uN:=hF2
      clear Xk dd1 Xn Xp Xr Xl Xm Xo Xq Xt hrc hrf
      obtain ⟨g',cap',hr⟩:=hD.out.inv.push hdn (t:=(.mk 1 ⟨#[]⟩ 0 [] (i:Int):T)) rfl (by rw [hm];exact uN.out)
      obtain ⟨σ2,HR2⟩:∃ σ2:St,Hid (RInv s w σ2 _∧σ2.ps=σ.ps++[((.mk 1 ⟨#[]⟩ 0 [] (i:Int):T),none,0)]∧σ2.dn=σ.dn):=⟨_,anc ⟨hr,rfl,rfl⟩⟩
      clear hr uN
      go_wp2_with fail
      go_step3
      (try simp only [Exit.inBlock,Exit.then,aU])
      refine ⟨2*(s.size-(i+1))+(if (1:Nat)=1 then 1 else 0),?_,i+1,((i:Int)+1),σ2,⟨_,rfl,by kernel_rfl,by kernel_rfl,by kernel_rfl,by kernel_rfl,by kernel_rfl⟩,?_,rfl,anc (⟨HR2.out.1,by omega,by rw [HR2.out.2.1,HR2.out.2.2,List.map_append];exact AX.out,by rw [HR2.out.2.1,List.length_append,hm];simp only [List.length_singleton];omega,fun p hp=>(List.mem_append.1 (HR2.out.2.1 ▸ hp)).elim (fun hp=>Nat.le_succ_of_le (hD.out.kids p hp)) (fun hp=>by rw [List.mem_singleton.1 hp];exact Nat.zero_le _),.inl rfl⟩)⟩
      ·simp only [if_true,reduceCtorEq,Nat.reduceEqDiff,if_false];omega
      ·omega
    ·rw [JR] at hwh
     have HQ:=anc (AX.out.symm.trans (if_pos (of_decide_eq_true JR)))
     clear JR hm
     go_wp2_with fail
     refine (hwh.out).mono ?_
     rintro e w' ⟨rfl,rfl⟩
     go_wp2_with fail
     (try simp only [Exit.inBlock,Exit.then,aU])
     refine ano (results_read rfl rfl rfl rfl (aB Ep.out)) rfl ?_
     exact ⟨.none_ (HQ.out) rfl,aC He.out (ank _)⟩
   ·have y12:12≤m:=by have:=of_decide_eq_true h12;omega
    have HQ:=anc (AX.out.symm.trans (if_pos y12))
    clear hm
    go_wp2_with fail
    (try simp only [Exit.inBlock,Exit.then,aU])
    refine ano (results_read rfl rfl rfl rfl (aB Ep.out)) rfl ?_
    exact ⟨.none_ (HQ.out) rfl,aC He.out (ank _)⟩
  ·refine ⟨_,rfl,?_⟩
   rcases Nat.eq_zero_or_pos σ.ps.length with h0 | h0
   ·have HQ:=anc (show R=(aH,12,(i:Int)) by exact (JM.out.symm.trans (xJ hl0 hl1 (by rw [List.length_map];exact h0))))
    rw [h0] at ha1
    go_wp2_with fail
    (try simp only [Exit.inBlock,Exit.then,aU])
    refine ano (results_read rfl rfl rfl rfl (aB Ep.out)) rfl ?_
    exact ⟨.none_ (HQ.out) rfl,aC He.out (ank _)⟩
   ·obtain ⟨m,hm⟩:∃ m,σ.ps.length=m+1:=⟨σ.ps.length-1,by omega⟩
    obtain ⟨x,hx⟩:∃ x,σ.ps[m]?=some x:=⟨_,anr (by omega)⟩
    have hfew:=hD.out.few
    have AX:=anc ((rY (op:=σ.ps.map Prod.fst) (dn:=σ.dn.map Prod.fst) hl0 hl1 (m:=m) (t:=x.1) (by rw [List.length_map];exact hm) (by rw [List.getElem?_map,hx];rfl)).symm.trans JM.out)
    have hkx:=hD.out.kids x (anq hx)
    have ho:=hD.out.inv.own
    rw [hm] at ho ha1 hfew
    obtain ⟨gO,cO,hv,_⟩:=ho.form (by omega)
    have hA:σ.A=some ⟨gO,0,none⟩:=by injection hv
    rw [hA] at ha1 ho
    obtain ⟨f0,f1,f2,f3,f4⟩:=mQ σ.ps m x hx
    have b0:=(ho.cellAt (m*5) (by omega)).trans f0
    have b1:=(ho.cellAt (m*5+1) (by omega)).trans f1
    have b2:=(ho.cellAt (m*5+2) (by omega)).trans f2
    have b3:=(ho.cellAt (m*5+3) (by omega)).trans f3
    have b4:=(ho.cellAt (m*5+4) (by omega)).trans f4
    obtain ⟨_,_⟩:=ho.form (show 0<m+1 by omega)
    have hcm:m+1≤σ.c:=by
     rcases ho.2 with ⟨h,_⟩ | ⟨_,cap,_,h,_,_,h2,_⟩
     ·simp at h
     ·injection h with _ _ h;omega
    obtain ⟨w4,wH⟩:∃ w4,w4=w3.alloc (.cells #[.int .i64 x.1.k,.string x.1.s,.int .i64 x.1.n,.slice x.2.1 x.1.kids.length x.2.2,.int .i64 x.1.at_] 71):=⟨_,rfl⟩
    have hb4:Below w3.heap.size w3 w4:=by rw [wH];exact (anl _ _).alloc (ank _) _
    have hn4:w4.heap[w3.heap.size]?=some (.cells #[.int .i64 x.1.k,.string x.1.s,.int .i64 x.1.n,.slice x.2.1 x.1.kids.length x.2.2,.int .i64 x.1.at_] 71 (0,0)):=by rw [wH];exact anm w3 _
    obtain ⟨lS,hx5⟩:=(hD.out.inv.below hb4).pop hm hx (by omega)
    have hc4:w4.cell? ⟨w.heap.size+1,1,none⟩=some (.slice (some ⟨gO,0,none⟩) (m+1) σ.c):=(anw (hb4.block (w.heap.size+1) (by omega))).trans ha1
    have hf4:w4.frozen? ⟨w.heap.size+1,1,none⟩=false:=by
     have:=(hb4.block (w.heap.size+1) (by omega)).trans Hf.out
     simp [World.frozen?,this]
    have hdn:σ.dn=[]:=by
     rcases hD.out.inv.od with h | h
     ·rw [h] at hm;cases hm
     ·exact h
    have hadd:=add_any lS x hx5 (by simp only [List.length_take];omega) (fun p hp=>by have:=hD.out.kids p (List.mem_of_mem_take hp);omega) (fun _=>hdn)
    obtain ⟨w5,wI⟩:∃ w5,w5=w4.setCell ⟨w.heap.size+1,1,none⟩ (.slice σ.A m σ.c):=⟨_,rfl⟩
    have WW:w5.heap[w3.heap.size]?=some (.cells #[.int .i64 x.1.k,.string x.1.s,.int .i64 x.1.n,.slice x.2.1 x.1.kids.length x.2.2,.int .i64 x.1.at_] 71 (0,0)):=by rw [wI];exact (ann w4 ⟨w.heap.size+1,1,none⟩ _ w3.heap.size (by simp;omega)).trans hn4
    rw [←wI] at hadd
    rw [hA] at wI
    have JP:=anc hadd
    have ZG:=anc wH
    have Rw:=anc wI
    have Oe:=anc WW
    have YT:=anc (And.intro hm (And.intro hx (And.intro hkx hdn)))
    have em:((m:Int)+1-1)=(m:Int):=by omega
    have ew:IntKind.i64.wrap (m:Int)=(m:Int):=by unfold IntKind.wrap;simp [IntKind.bits,IntKind.signed];omega
    have el:(m:Int)<(m:Int)+1:=by omega
    have aly:decide (0<(m:Int)+1)=true:=decide_eq_true (by omega)
    have ele:(m:Int)≤(m:Int)+1:=by omega
    clear lS hx5 hadd wH wI hb4 hn4 WW ho hv f0 f1 f2 f3 f4 hx hkx hdn
    obtain ⟨⟨xk,xs,xn,xl,xa⟩,xA,xc⟩:=x
    simp only [T.k,T.s,T.n,T.kids,T.at_] at b0 b1 b2 b3 b4 JP ZG Oe YT AX
    obtain ⟨xln,QO⟩:∃ n,n=xl.length:=⟨_,rfl⟩
    rw [←QO] at b3 JP ZG Oe
    clear QO hm
    go_upto_region 26 with (fail)
    rw [←ZG.out]
    go_upto_region 27 with (fail)
    rw [←Rw.out]
    obtain ⟨⟨k0,k1,k2,k3,k4⟩,_,_,_,_,_⟩:=ay Oe.out
    go_wp2_with fail
    refine (JP.out).mono ?_
    rintro e w6 ⟨rfl,σ2,nN,Dv,hlen2,_,JQ⟩
    obtain ⟨hm,hx,hkx,hdn⟩:=YT.out
    have hlen3:σ2.ps.length=m:=by rw [hlen2];simp only [List.length_take];omega
    have wU:=anc nN
    have HRU:Hid (bf s (σ2.ps.map Prod.fst) (σ2.dn.map Prod.fst) (i+1)=R):=anc (by
     have h1:=congrArg Prod.fst Dv
     have h2:=congrArg Prod.snd Dv
     simp only at h1 h2
     rw [h1,h2]
     simp only [List.map_take]
     exact AX.out)
    have KH:Hid (∀ p∈σ2.ps,p.1.kids.length≤i+1):=anc (fun p hp=>by
     obtain ⟨p0,hp0,h⟩:=JQ p hp
     have:=hD.out.kids p0 (List.mem_of_mem_take hp0)
     omega)
    clear nN Dv hlen2 JQ hm hx hkx hdn
    go_wp2_with fail
    go_step3
    (try simp only [Exit.inBlock,Exit.then,aU])
    refine ⟨2*(s.size-(i+1))+(if (1:Nat)=1 then 1 else 0),?_,i+1,((i:Int)+1),σ2,⟨_,rfl,by kernel_rfl,by kernel_rfl,by kernel_rfl,by kernel_rfl,by kernel_rfl⟩,?_,rfl,anc (⟨wU.out,by omega,HRU.out,by omega,KH.out,.inl rfl⟩)⟩
    ·simp only [if_true,reduceCtorEq,Nat.reduceEqDiff,if_false];omega
    ·omega
theorem QQ:uD:=fun x w hx hE=>by
 obtain ⟨⟨_,e1,c1,d1⟩,⟨_,e2,c2,d2⟩⟩:=hE
 cases h:Lib.parseIntB 64 x.data.toList with
 | ok v =>
   refine (Tryz.strconv_ParseInt_10_at64_ok x (by omega) v h w).mono ?_
   rintro e w' ⟨rfl,hw⟩
   refine ⟨.inl ⟨v,rfl,rfl⟩,?_⟩
   rcases hw with rfl | ⟨t,rfl⟩
   ·exact anl _ _
   ·exact Lib.bytesWorld_below _ _ _
 | «syntax» =>
   refine (Tryz.strconv_ParseInt_10_at64_syntax x (by omega) h e1 w c1 d1).mono ?_
   rintro e w' ⟨N,rfl,_,_,hb⟩
   exact ⟨.inr ⟨(fun v h=>by cases h),_,_,_,rfl⟩,hb⟩
 | range =>
   refine (Tryz.strconv_ParseInt_10_at64_range x (by omega) h e2 w c2 d2).mono ?_
   rintro e w' ⟨N,rfl,_,_,hb⟩
   exact ⟨.inr ⟨(fun v h=>by cases h),_,_,_,rfl⟩,hb⟩
theorem Xw:yt:=fun c w=>Tryz.strings_IndexByte hexDigits c w
structure Env (w:World):Prop where
 errs:Errs w
 pow:∀ w',Below w.heap.size w w'→SV w'
theorem Env.low {w w':World} (h:Env w)(hb:Below w.heap.size w w'):Env w':=⟨h.errs.below hb,fun x hx=>h.pow x (hb.trans (hx.mono hb.size))⟩
def nJ (s:ByteArray):T×Int×Int:=if 600<s.size then (aH,3,0) else bf s [] [] 0
theorem Hg (s:ByteArray)(w:World)(hE:Errs w):Calls Tryz.prog 29 #[.string s] w fun e w'=>Ha w (nJ s) e w'∧Below w.heap.size w w':=by
 unfold nJ
 by_cases hs:600<s.size
 ·rw [if_pos hs]
  obtain ⟨w1,aK⟩:∃ w1,w1=w.alloc (.cells #[.int .i64 0,.string ⟨#[]⟩,.int .i64 0,.slice none 0 0,.int .i64 0] 71):=⟨_,rfl⟩
  have hb1:Below w.heap.size w w1:=by rw [aK];exact (anl _ _).alloc (ank _) _
  have hx1:w1.heap[w.heap.size]?=some (.cells #[.int .i64 0,.string ⟨#[]⟩,.int .i64 0,.slice none 0 0,.int .i64 0] 71 (0,0)):=by rw [aK];exact anm w _
  have HW1:=anc aK
  have HB1:=anc hb1
  have QN:(600:Int)<(s.size:Int):=by omega
  have alz:decide ((600:Int)<(s.size:Int))=true:=decide_eq_true QN
  clear aK hb1
  obtain ⟨⟨k0,k1,k2,k3,k4⟩,f0,f1,f2,f3,f4⟩:=ay hx1
  go_enter Tryz.func29,Tryz.ntmps29
  go_upto_region 1 with (fail)
  rw [←HW1.out]
  go_step3
  go_wp2_with fail
  simp only [Exit.noGoto]
  refine ano (results_read rfl rfl rfl rfl (aB hx1)) rfl ?_
  exact ⟨.none_ rfl rfl,aC HB1.out (ank _)⟩
 ·rw [if_neg hs]
  exact QM QQ Xw s (by omega) w hE
theorem lL {fn:Func} {p q r:Tmp} (h:fn.results=#[.cell p 27,.tmp q,.tmp r]) {tmps:Array Value} {w:World} {g:Nat} {x0 x1 x2 x3 x4 x5 x6 x7 a b:Value} {t:TypeId}
 (hp:tmps.getD p undef=.pointer (some ⟨g,0,none⟩))(hq:tmps.getD q undef=a)(hr:tmps.getD r undef=b)(hg:w.heap[g]?=some (.cells #[x0,x1,x2,x3,x4,x5,x6,x7] t (0,0))):(results fn tmps).run Tryz.prog w=.ok (.tuple #[.agg #[x0,x1,x2,x3,x4,x5,x6,x7],a,b]) w:=by
 have hp':tmps[p]?.getD undef=.pointer (some ⟨g,0,none⟩):=by simpa using hp
 have hq':tmps[q]?.getD undef=a:=by simpa using hq
 have hr':tmps[r]?.getD undef=b:=by simpa using hr
 have hl:=run_loadVar_row (P:=Tryz.prog) w g t 27 #[x0,x1,x2,x3,x4,x5,x6,x7] (0,0) _ hg Tryz.underlying27 rfl (by show _=some 8;kernel_rfl)
 simp [results,h,hp',hq',hr',asAddr,hl]
def yw (w:World)(R:P×Int×Int)(e:Ending)(w':World):Prop:=(∃ a:PA,e=.returned (.tuple #[R.1.val a,.int .i64 R.2.1,.int .i64 R.2.2])∧jS w' (fun k=>w.heap.size≤k∧k<w'.heap.size) R.1 a)∧Below w.heap.size w w'
theorem UH (w:World)(S:Nat→Prop):jS w S bW oG:=⟨iV _ _ _ _,.nil _⟩
theorem vZ {w w':World} {R:P×Int×Int} {e:Ending} (hR:R.1=bW)(he:e=.returned (.tuple #[.agg #[.int .i64 0,.string ⟨#[]⟩,.slice none 0 0,.slice none 0 0,.slice none 0 0,.slice none 0 0,.slice none 0 0,.slice none 0 0],.int .i64 R.2.1,.int .i64 R.2.2]))(hb:Below w.heap.size w w'):yw w R e w':=by
 obtain ⟨p,q⟩:=R
 simp only at hR he
 subst hR
 exact ⟨⟨oG,he,UH _ _⟩,hb⟩
theorem UI (w:World)(p:Nat):w.drew.heap[p]?=w.heap[p]?:=rfl
theorem zJ {w:World} {p:Nat} {a b c d e f g h x0 x1 x2 x3 x4 x5 x6 x7:Value} {t:TypeId} (hb:w.heap[p]?=some (.cells #[a,b,c,d,e,f,g,h] t (0,0))):(rO w p x0 x1 x2 x3 x4 x5 x6 x7).drew.heap[p]?=some (.cells #[x0,x1,x2,x3,x4,x5,x6,x7] t (0,0)):=(UI _ p).trans (di hb)
theorem JS (s:ByteArray)(h:(nJ s).2.1≠0):kX s=(bW,(nJ s).2.1,(nJ s).2.2):=by
 unfold nJ at h ⊢
 unfold kX
 by_cases h1:600<s.size
 ·rw [if_pos h1,if_pos h1]
 ·rw [if_neg h1] at h ⊢
  rw [if_neg h1,if_neg h]
theorem JU (s:ByteArray)(h:(nJ s).2.1=0):nJ s=bf s [] [] 0∧¬600<s.size∧(bf s [] [] 0).2.1=0:=by
 unfold nJ at h ⊢
 by_cases h1:600<s.size
 ·rw [if_pos h1] at h;simp at h
 ·rw [if_neg h1] at h ⊢
  exact ⟨rfl,h1,h⟩
theorem JV {s:ByteArray} {t:T} (h1:¬600<s.size)(h2:(bf s [] [] 0).2.1=0)(ht:(bf s [] [] 0).1=t) :
 kX s=if (aX t (0,0)).2.1=0 then (if 600<(qJ (aX t (0,0)).1).size then (bW,3,0) else ((aX t (0,0)).1,0,0)) else (bW,(aX t (0,0)).2.1,(aX t (0,0)).2.2):=by
 unfold kX
 rw [if_neg h1,if_pos h2,ht]
theorem yx (s:ByteArray)(w:World)(hE:Env w):Calls Tryz.prog 14 #[.string s] w (yw w (kX s)):=by
 obtain ⟨w1,aK⟩:∃ w1,w1=w.alloc (.cells #[.int .i64 0,.string ⟨#[]⟩,.slice none 0 0,.slice none 0 0,.slice none 0 0,.slice none 0 0,.slice none 0 0,.slice none 0 0] 27):=⟨_,rfl⟩
 have hb1:Below w.heap.size w w1:=by rw [aK];exact (anl _ _).alloc (ank _) _
 have hs1:w.heap.size<w1.heap.size:=by rw [aK];simp
 have gU:Hid (w1.heap[w.heap.size]?=some (.cells #[.int .i64 0,.string ⟨#[]⟩,.slice none 0 0,.slice none 0 0,.slice none 0 0,.slice none 0 0,.slice none 0 0,.slice none 0 0] 27 (0,0))):=anc (by rw [aK];exact anm w _)
 have HW1:=anc aK
 have HB1:=anc hb1
 have HE:=anc hE
 have HS:=anc (Hg s w1 (hE.low hb1).errs)
 clear aK hb1 hE
 go_enter Tryz.func14,Tryz.ntmps14
 go_upto_region 1 with (fail)
 rw [←HW1.out]
 go_wp2_with fail
 refine (HS.out).mono ?_
 rintro e w2 ⟨⟨A,c,rfl,hc,hX⟩,hb2⟩
 have hrp:kX s=(if 600<s.size then (bW,3,0) else if (bf s [] [] 0).2.1=0 then
  (if (aX (bf s [] [] 0).1 (0,0)).2.1=0 then (if 600<(qJ (aX (bf s [] [] 0).1 (0,0)).1).size then (bW,3,0) else ((aX (bf s [] [] 0).1 (0,0)).1,0,0))
  else (bW,(aX (bf s [] [] 0).1 (0,0)).2.1,(aX (bf s [] [] 0).1 (0,0)).2.2))
  else (bW,(bf s [] [] 0).2.1,(bf s [] [] 0).2.2)):=rfl
 have Nu:Hid ((nJ s).2.1≠0→kX s=(bW,(nJ s).2.1,(nJ s).2.2)):=anc (JS s)
 have Nv:Hid ((nJ s).2.1=0→nJ s=bf s [] [] 0∧¬600<s.size∧(bf s [] [] 0).2.1=0):=anc (JU s)
 clear hrp
 have dG:=anc ((hb2.block _ hs1).trans gU.out)
 have HB2:=anc (HB1.out.trans (hb2.mono HB1.out.size))
 have HTK:=anc hX
 have hs2:=hb2.size
 clear hX hb2
 generalize hRR:nJ s=R at *
 have HRR:=anc hRR
 clear hRR
 obtain ⟨t,why,at_⟩:=R
 simp only at hc HTK Nu Nv ⊢
 by_cases h0:why=0
 ·subst h0
  obtain ⟨e1,e2,e3⟩:=Nv.out rfl
  have hok:=anc (Wi e3)
  rw [←e1] at hok
  obtain ⟨q,hq⟩:∃ q,q=aX t (0,0):=⟨_,rfl⟩
  have hR:Hid (kX s=if q.2.1=0 then (if 600<(qJ q.1).size then (bW,3,0) else (q.1,0,0)) else (bW,q.2.1,q.2.2)):=anc (by rw [hq];exact JV e2 e3 (by rw [←e1]))
  have hbk:=anc (fun h=>gW t (0,0) h)
  rw [←hq] at hbk
  have hfw:=anc (fun h=>Jl t (zD hok.out.1 h) (0,0))
  rw [←hq] at hfw
  have UJ:Hid (dF t≤600):=anc (anv hok.out.2.2 (by omega))
  clear e1 e2 e3 Nu Nv
  obtain ⟨w3,lI⟩:∃ w3,w3=w2.alloc (.cells #[.int .i64 t.k,.string t.s,.int .i64 t.n,.slice A t.kids.length c,.int .i64 t.at_] 71):=⟨_,rfl⟩
  have hb3:Below w2.heap.size w2 w3:=by rw [lI];exact (anl _ _).alloc (ank _) _
  have hs3:w3.heap.size=w2.heap.size+1:=by rw [lI];simp
  have HT3:Hid (w3.heap[w2.heap.size]?=some (.cells #[.int .i64 t.k,.string t.s,.int .i64 t.n,.slice A t.kids.length c,.int .i64 t.at_] 71 (0,0))):=anc (by rw [lI];exact anm w2 _)
  obtain ⟨w4,wH⟩:∃ w4,w4=w3.alloc (.cells #[.int .i64 0,.int .i64 0] 76):=⟨_,rfl⟩
  have hb4:Below w3.heap.size w3 w4:=by rw [wH];exact (anl _ _).alloc (ank _) _
  have hs4:w4.heap.size=w3.heap.size+1:=by rw [wH];simp
  have VS:qo w4 w3.heap.size (0,0):=by rw [wH];exact anm w3 _
  have Xx:Below w2.heap.size w2 w4:=hb3.trans (hb4.mono hb3.size)
  have HT4:=anc ((hb4.block w2.heap.size (by omega)).trans HT3.out)
  have qU:=anc ((Xx.block _ (by omega)).trans dG.out)
  have HB4:=anc (HB2.out.trans (Xx.mono HB2.out.size))
  have jI:=anc (TN t (zD hok.out.1 UJ.out) A c w3.heap.size (0,0) w4 VS hc (((HTK.out.to (B:=w2.heap.size) fun k hk=>hk.2).low Xx).more (by omega)))
  rw [←hq] at jI
  have HW3:=anc lI
  have ZG:=anc wH
  have HR4:=anc VS
  clear lI hb3 wH hb4 VS Xx hq
  obtain ⟨tk,ts,tn,tl,ta⟩:=t
  simp only [T.val,T.k,T.s,T.n,T.kids,T.at_] at jI HW3 HT4 HT3 ⊢
  generalize tl.length=tm at *
  obtain ⟨⟨k0,k1,k2,k3,k4⟩,_,_,_,_,_⟩:=ay HT4.out
  have hg1:w.heap.size<w3.heap.size:=by omega
  have hz4:w3.heap.size<w4.heap.size:=by omega
  have hx4:w.heap.size<w4.heap.size:=by omega
  clear hs3 hs4
  go_upto_region 2 with (fail)
  rw [←HW3.out]
  go_upto_region 5 with (fail)
  rw [←ZG.out]
  go_wp2_with fail
  refine (jI.out).mono ?_
  rintro e w5 ⟨⟨a,rfl,hP⟩,dP,lS⟩
  have HP5:=anc hP
  have fV:=anc dP
  have uG:=anc lS
  have hs5:=dP.size
  obtain ⟨p,st⟩:=q
  obtain ⟨sw,sa⟩:=st
  simp only [P.val] at hbk hfw hR HP5 uG ⊢
  obtain ⟨w6,G9⟩:∃ w6,w6=w5.alloc (.cells #[.int .i64 p.k,.string p.nm,.slice a.ea p.ex.length a.ec,.slice a.ca p.cols.length a.cc,.slice a.la p.left.length a.lc,.slice a.ra p.right.length a.rc,.slice a.ga p.ag.length a.gc,.slice a.ka p.kids.length a.kc] 27):=⟨_,rfl⟩
  have hb6:Below w5.heap.size w5 w6:=by rw [G9];exact (anl _ _).alloc (ank _) _
  have A8:Hid (w6.heap[w5.heap.size]?=some (.cells #[.int .i64 p.k,.string p.nm,.slice a.ea p.ex.length a.ec,.slice a.ca p.cols.length a.cc,.slice a.la p.left.length a.lc,.slice a.ra p.right.length a.rc,.slice a.ga p.ag.length a.gc,.slice a.ka p.kids.length a.kc] 27 (0,0))):=anc (by rw [G9];exact anm w5 _)
  have hs6:w5.heap.size<w6.heap.size:=by rw [G9];simp
  have HW6:=anc G9
  have wU:=anc (lS.kept hb6)
  have iP:=anc (HB4.out.trans (((dP.below (B:=w.heap.size) (by omega) (by omega))).trans (hb6.mono (by omega))))
  have CG:=anc ((hb6.block _ (by omega)).trans ((dP.block w.heap.size (by omega) (by omega)).trans qU.out))
  have KN:=anc ((hP.kept (w':=w6) fun k hk=>hb6.block k hk.2).mono fun k hk=>(⟨hk.1,by have:=hk.2;omega⟩:w4.heap.size≤k∧k<w6.heap.size))
  have hmap:Hid (p.ex.length=p.ex.length):=anc rfl
  clear G9 hb6 hP dP lS uG
  go_upto_region 6 with (fail)
  rw [←HW6.out]
  obtain ⟨⟨r0,r1⟩,_,_⟩:=cell2 wU.out
  (try simp only at r0 r1)
  by_cases hw0:sw=0
  ·subst hw0
   obtain ⟨b1,b2,b3⟩:=hbk.out rfl
   (try simp only at b1 b2 b3)
   obtain ⟨_,rfl⟩:(0:Int)=0∧sa=0:=by injection b1 with b1 b2;exact ⟨rfl,b2⟩
   have HMD:=anc b3
   have HFW:=anc (hfw.out UJ.out)
   have HTP:Hid (aV p=era (.mk tk ts tn tl ta)):=anc (by rw [b2,Ou hok.out.1])
   have agm:Hid (oM (aV p)):=anc (by rw [HTP.out];exact Ox (GL hok.out.1) (by rw [FH];exact UJ.out))
   have htr:=zy p HMD.out HFW.out a w6 (KN.out.mono fun k hk=>hk.2)
   simp only [P.val] at htr
   have Gl:=anc htr
   have G7:=anc (HE.out.low (w':=w6) iP.out)
   have DX:=anc (fun A' c' w' (h:Below w6.heap.size w6 w')(h1:(aV p).kids.length≤c')(h2:bz w' w'.heap.size A' (aV p).kids)=>print_any (aV p) agm.out A' c' w' h1 h2 (G7.out.low h).pow)
   obtain ⟨z0,z1,z2,z3,z4,z5,z6,z7,_,_,_,_,_,_,_,_⟩:=az A8.out
   have hps:Hid ((⟨(dH (aV p)).toArray⟩:ByteArray)=qJ p):=anc rfl
   rw [hps.out] at DX
   clear b1 b2 b3 htr
   generalize qJ p=pp at *
   generalize aV p=tp at *
   obtain ⟨uk,us,un,ul,uo⟩:=tp
   simp only [T.val,T.k,T.s,T.n,T.kids,T.at_] at DX
   go_wp2_with fail
   refine (Gl.out).mono ?_
   rintro e w7 ⟨⟨A7,c7,rfl,Om,Oo⟩,hb7⟩
   have Ii:=anc hb7
   have jq:=anc (DX.out A7 c7 w7 hb7 Om (Oo.to fun k hk=>hk.2))
   simp only [T.val,T.k,T.s,T.n,T.kids,T.at_]
   clear hb7 Oo Om
   go_wp2_with fail
   refine (jq.out).mono ?_
   rintro e w8 ⟨rfl,hb8⟩
   have uC:=anc (Ii.out.trans (hb8.mono Ii.out.size))
   have hs8:=uC.out.size
   clear hb8 r0 r1 z0 z1 z2 z3 z4 z5 z6 z7
   obtain ⟨⟨r0,r1⟩,_,_⟩:=cell2 ((uC.out.block w3.heap.size (by omega)).trans wU.out)
   (try simp only at r0 r1)
   have HR8:Hid (qo w8 w3.heap.size (0,0)):=anc (wU.out.kept uC.out)
   have HX8:=anc ((uC.out.block w.heap.size (by omega)).trans CG.out)
   by_cases hl:600<pp.size
   ·have hRP:Hid (kX s=(bW,3,0)):=anc (by rw [hR.out,if_pos trivial,if_pos hl])
    have hl':decide (600<(pp.size:Int))=true:=by simp;omega
    have hl2:(600:Int)<(pp.size:Int):=by omega
    have HRF:=anc (dD w3.heap.size (0,0) 3 0 w8 HR8.out)
    rw [show rF 3 0 (0,0)=(3,0) from rfl] at HRF
    go_wp2_with fail
    refine (HRF.out).mono ?_
    rintro e w9 ⟨rfl,ho9,OI⟩
    have HO9:=anc ho9
    have IC:=anc OI
    have EE:=anc ((ho9.block w.heap.size (by omega) (by omega)).trans HX8.out)
    clear ho9 OI r0 r1
    obtain ⟨⟨r0,r1⟩,_,_⟩:=cell2 IC.out
    (try simp only at r0 r1)
    obtain ⟨x0,x1,x2,x3,x4,x5,x6,x7,f0,f1,f2,f3,f4,f5,f6,f7⟩:=az EE.out
    go_upto_region 9 with (fail)
    go_region
    all_goals
     go_wp2_with fail
     refine ano (lL rfl rfl rfl rfl (zJ EE.out)) rfl ?_
     rw [hRP.out]
     exact vZ rfl rfl (dE ((iP.out.trans (uC.out.mono iP.out.size)).trans (HO9.out.below (by omega) (by omega))) (ank _)).drew
   ·have hRP:Hid (kX s=(p,0,0)):=anc (by rw [hR.out,if_pos trivial,if_neg hl])
    have hl':decide (600<(pp.size:Int))=false:=by simp;omega
    have hl2:¬(600:Int)<(pp.size:Int):=by omega
    obtain ⟨x0,x1,x2,x3,x4,x5,x6,x7,f0,f1,f2,f3,f4,f5,f6,f7⟩:=az HX8.out
    obtain ⟨z0,z1,z2,z3,z4,z5,z6,z7,_,_,_,_,_,_,_,_⟩:=az ((uC.out.block w5.heap.size (by omega)).trans A8.out)
    go_wp2_with fail
    refine ano (lL rfl rfl rfl rfl (di HX8.out)) rfl ?_
    rw [hRP.out]
    have hbb:=iP.out.trans (uC.out.mono iP.out.size)
    exact ⟨⟨a,rfl,(KN.out.kept fun k hk=>(gz (by have:=hk.1;omega)).trans (uC.out.block k hk.2)).mono fun k hk=>⟨by have:=hk.1;omega,anu (anp hk.2 hs8) kC.symm⟩⟩,dE hbb (ank _)⟩
  ·have hRP:Hid (kX s=(bW,sw,sa)):=anc (by rw [hR.out,if_neg hw0])
   have hw':(sw==0)=false:=by simpa using hw0
   obtain ⟨x0,x1,x2,x3,x4,x5,x6,x7,f0,f1,f2,f3,f4,f5,f6,f7⟩:=az CG.out
   go_upto_region 9 with (fail)
   go_region
   all_goals
    go_wp2_with fail
    refine ano (lL rfl rfl rfl rfl (zJ CG.out)) rfl ?_
    rw [hRP.out]
    exact vZ rfl rfl (dE iP.out (ank _)).drew
 ·have h0':(why==0)=false:=by simpa using h0
  obtain ⟨x0,x1,x2,x3,x4,x5,x6,x7,f0,f1,f2,f3,f4,f5,f6,f7⟩:=az ((show ∀ o,(w2.alloc o).heap[w.heap.size]?=w2.heap[w.heap.size]? from fun o=>ant w2 o _ (by omega)) (.cells #[.int .i64 t.k,.string t.s,.int .i64 t.n,.slice A t.kids.length c,.int .i64 t.at_] 71) |>.trans dG.out)
  have HXA:=anc ((ant w2 (.cells #[.int .i64 t.k,.string t.s,.int .i64 t.n,.slice A t.kids.length c,.int .i64 t.at_] 71) w.heap.size (by omega)).trans dG.out)
  go_wp2_with fail
  refine ano (lL rfl rfl rfl rfl (di HXA.out)) rfl ?_
  have hr:=Nu.out h0
  rw [hr]
  exact vZ rfl rfl (dE (HB2.out.alloc HB2.out.size _) (ank _))
theorem Ho (s:ByteArray)(hs:s.size≤1000000)(w:World)(hE:Env w):Calls Tryz.prog 14 #[.string s] w (yw w (kX s)):=yx s w hE
end Go.Proofs.YtjhkihkiebnpaaaGreatDoor
