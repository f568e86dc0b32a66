/-
  Package sexp's reader: what begins at a place.
-/
import Derived.Test.YtjhkihkiebnpaaaGreatDoorMj0
import Derived.Test.YtjhkihkiebnpaaaGreatDoorMj6
import Derived.Laws.BytesArg
import Derived.Test.YtjhkihkiebnpaaaGreatDoorMj3
import Derived.Test.YtjhkihkiebnpaaaGreatDoorMj2
import Derived.Test.YtjhkihkiebnpaaaGreatDoorMj5
import Derived.Test.YtjhkihkiebnpaaaGreatDoorMj1
import Derived.IntWalk
import Derived.BigQuiet
import Derived.Laws.StructEq
import Derived.Deep.DeepCutAuto
set_option linter.unusedVariables false
set_option linter.unusedSimpArgs false
set_option maxRecDepth 100000
set_option maxHeartbeats 40000000
namespace Go.Proofs.YtjhkihkiebnpaaaGreatDoor
open Go.RowKit
theorem iF {fn:Func} {p q r u:Tmp} (h:fn.results=#[.cell p 71,.tmp q,.tmp r,.tmp u]) {tmps:Array Value} {w:World} {g:Nat} {x0 x1 x2 x3 x4 a b c:Value} {t:TypeId}
 (hp:tmps.getD p undef=.pointer (some ⟨g,0,none⟩))(hq:tmps.getD q undef=a)(hr:tmps.getD r undef=b)(hu:tmps.getD u undef=c)(hg:w.heap[g]?=some (.cells #[x0,x1,x2,x3,x4] t (0,0))):(results fn tmps).run Tryz.prog w=.ok (.tuple #[.agg #[x0,x1,x2,x3,x4],a,b,c]) w:=by
 have hp':tmps[p]?.getD undef=.pointer (some ⟨g,0,none⟩):=by simpa using hp
 have hq':tmps[q]?.getD undef=a:=by simpa using hq
 have hr':tmps[r]?.getD undef=b:=by simpa using hr
 have hu':tmps[u]?.getD undef=c:=by simpa using hu
 have hl:=run_loadVar_row (P:=Tryz.prog) w g t 71 #[x0,x1,x2,x3,x4] (0,0) _ hg Tryz.underlying71 rfl (by show _=some 5;kernel_rfl)
 simp[results,h,hp',hq',hr',hu',asAddr,hl]
def ZV (r:T×Int×Int×Int)(e:Ending):Prop:=e=.returned (.tuple #[.agg #[.int .i64 r.1.k,.string r.1.s,.int .i64 r.1.n,.slice none 0 0,.int .i64 r.1.at_],.int .i64 r.2.1,.int .i64 r.2.2.1,.int .i64 r.2.2.2])∧r.1.kids=[]
theorem VN {w:World} {base:Nat} {A:Option Addr} {c:Nat} {L:List UInt8} (h:w.ownsRow base 5 1 (.slice A L.length c) L.length (DD L)) :
 (Go.convert 151 9 (.slice A L.length c)).run Tryz.prog w=.ok (.string ⟨L.toArray⟩) w:=by
 rcases h.2 with⟨e,h0⟩|⟨g,cap,cur,e,_⟩
 ·have e0:L=[]:=bF h0
  subst e0
  injection e with e1
  subst e1
  rw[run_convert_bytes_nil (P:=Tryz.prog) w 151 5 Tryz.underlying151 Tryz.underlying5 _ _ 9 Tryz.underlying9]
  rfl
 ·injection e with e1
  subst e1
  exact run_convert_bytes_back (P:=Tryz.prog) w 151 9 5 ⟨g,0,none⟩ c L Tryz.underlying151 Tryz.underlying5 Tryz.underlying9 (fun q hq=>h.cells rfl q _ (by simp[DD,NJ,hq]))
theorem one_any (hP:wR)(hH:zI)(s:ByteArray)(i:Nat)(hi:i<s.size)(hs:s.size≤600)(g dn dc:Nat)(dA:Option Addr)(vo:Value)(w:World)(hE:Errs w)(hg:w.heap[g]?=some (.cells #[.string s,vo,.slice dA dn dc] 102 (0,0))) :
 Calls Tryz.prog 53 #[.pointer (some ⟨g,0,none⟩),.int .i64 (i:Int)] w fun e w'=>ZV (iT s i (decide (0<dn))) e∧Below w.heap.size w w':=by
 have hgl:g<w.heap.size:=(aU.1 hg).1
 have oN:=ae (uw hi)
 have g0:w.cell? ⟨g,0,none⟩=some (.string s):=by simp[World.cell?,hg]
 obtain⟨w1,dZ⟩:∃ w1,w1=w.alloc (.cells #[.int .i64 0,.string ⟨#[]⟩,.int .i64 0,.slice none 0 0,.int .i64 0] 71):=⟨_,rfl⟩
 have hb1:Below w.heap.size w w1:=by rw[dZ];exact (aG _ _).alloc (aF _) _
 have hs1:w1.heap.size=w.heap.size+1:=by rw[dZ];simp
 have hx1:w1.heap[w.heap.size]?=some (.cells #[.int .i64 0,.string ⟨#[]⟩,.int .i64 0,.slice none 0 0,.int .i64 0] 71 (0,0)):=by rw[dZ];exact aH w _
 have hg1:w1.heap[g]?=some (.cells #[.string s,vo,.slice dA dn dc] 102 (0,0)):=(hb1.block g hgl).trans hg
 have g1:w1.cell? ⟨g,0,none⟩=some (.string s):=by simp[World.cell?,hg1]
 have HW1:=ae dZ
 have jJ:=ae hx1
 have HB1:=ae hb1
 clear dZ hx1 hb1
 go_enter Tryz.func53,Tryz.ntmps53
 go_upto_region 1 with (fail)
 rw[←HW1.o]
 go_upto_region 5 with (fail)
 obtain⟨w2,AQ⟩:∃ w2,w2=w1.alloc (.cells #[.int .i64 0,.string ⟨#[]⟩,.int .i64 0,.slice none 0 0,.int .i64 (i:Int)] 71):=⟨_,rfl⟩
 have hb2:Below w1.heap.size w1 w2:=by rw[AQ];exact (aG _ _).alloc (aF _) _
 have hs2:w2.heap.size=w.heap.size+1+1:=by rw[AQ];simp;omega
 have ht2:w2.heap[w.heap.size+1]?=some (.cells #[.int .i64 0,.string ⟨#[]⟩,.int .i64 0,.slice none 0 0,.int .i64 (i:Int)] 71 (0,0)):=by rw[AQ,←hs1];exact aH w1 _
 have hx2:w2.heap[w.heap.size]?=some (.cells #[.int .i64 0,.string ⟨#[]⟩,.int .i64 0,.slice none 0 0,.int .i64 0] 71 (0,0)):=(hb2.block _ (by omega)).trans jJ.o
 have hg2:w2.heap[g]?=some (.cells #[.string s,vo,.slice dA dn dc] 102 (0,0)):=(hb2.block _ (by omega)).trans hg1
 have hbw:Below w.heap.size w w2:=HB1.o.trans (hb2.mono (by omega))
 have hE2:=hE.below hbw
 have HE:=ae hE
 clear hE
 have iI:=ae hx2
 have HT2:=ae ht2
 have HB2:=ae hbw
 have hW:=ae (Iw hg2)
 have hL:=ae (EJ s[i] w2)
 have hD:=ae (Iu s[i] w2)
 have hR:=ae (LM s i (by omega) hs w2)
 rw[←AQ]
 clear AQ hb2 ht2 hx2 hg2 hbw hE2 jJ HB1 hg1 g1 hg g0 hgl HW1
 cases hwh:decide (0<dn)
 ·rw[hwh] at hW
  cases hl:o9 s[i]
  ·rw[hl] at hL
   cases hd:oO s[i]
   ·rw[hd] at hD
    cases h45:((s[i].toNat:Int)==45)
    ·have p45:Hid (¬(s[i].toNat:Int)=45):=ae (by simpa using h45)
     cases uJ:((s[i].toNat:Int)==34)
     ·have p34:Hid (¬(s[i].toNat:Int)=34):=ae (by simpa using uJ)
      have HQ:Hid (iT s i false=(.mk 0 ⟨#[]⟩ 0 [] i,(i:Int)+1,12,(i:Int))):=ae (by
       unfold iT
       rw[oN.o]
       simp[hl,hd,p45.o,p34.o])
      clear oN
      go_wp2_with fail
      refine (hW.o).mono ?_
      rintro e w' ⟨rfl,rfl⟩
      go_wp2_with fail
      refine (hL.o).mono ?_
      rintro e w' ⟨rfl,rfl⟩
      go_wp2_with fail
      refine (hD.o).mono ?_
      rintro e w' ⟨rfl,rfl⟩
      obtain⟨⟨k0,k1,k2,k3,k4⟩,f0,f1,f2,f3,f4⟩:=dN HT2.o
      obtain⟨⟨l0,l1,l2,l3,l4⟩,q0,q1,q2,q3,q4⟩:=dN iI.o
      go_wp2_with fail
      (try simp only[Exit.inBlock,Exit.then])
      refine aJ (iF rfl rfl rfl rfl rfl (dR iI.o)) rfl ?_
      exact⟨by rw[hwh,HQ.o];exact⟨rfl,rfl⟩,dS HB2.o (aF _)⟩
     ·have p34:Hid ((s[i].toNat:Int)=34):=ae (by simpa using uJ)
      obtain⟨w3,ny⟩:∃ w3,w3=w2.setCell ⟨w.heap.size+1,0,none⟩ (.int .i64 4):=⟨_,rfl⟩
      have HT3:Hid (w3.heap[w.heap.size+1]?=some (.cells #[.int .i64 4,.string ⟨#[]⟩,.int .i64 0,.slice none 0 0,.int .i64 (i:Int)] 71 (0,0))):=ae (by rw[ny];exact nP (k:=0) HT2.o)
      have nO:Hid (w3.heap[w.heap.size]?=some (.cells #[.int .i64 0,.string ⟨#[]⟩,.int .i64 0,.slice none 0 0,.int .i64 0] 71 (0,0))):=ae (by rw[ny];exact (aI _ ⟨w.heap.size+1,0,none⟩ _ w.heap.size (by simp)).trans iI.o)
      have HB3:Hid (Below w.heap.size w w3):=ae (by rw[ny];exact HB2.o.setCell (p:=⟨w.heap.size+1,0,none⟩) (by simp) _)
      have hs3:w3.heap.size=w.heap.size+1+1:=by rw[ny];simp[World.setCell];omega
      have HW3:=ae ny
      obtain⟨⟨j0,j1,j2,j3,j4⟩,e0,e1,e2,e3,e4⟩:=dN HT2.o
      clear ny
      have hT:=ae (VM hH s i hi hs w3)
      have HQ:Hid (iT s i false=(.mk 4 ⟨(textE s i).1.toArray⟩ 0 [] i,((textE s i).2.1:Int),(textE s i).2.2.1,(textE s i).2.2.2)):=ae (by
       unfold iT
       rw[oN.o]
       simp[hl,hd,p45.o,p34.o])
      clear oN
      generalize textE s i=r at *
      obtain⟨L,en,why,pl⟩:=r
      go_wp2_with fail
      refine (hW.o).mono ?_
      rintro e w' ⟨rfl,rfl⟩
      go_wp2_with fail
      refine (hL.o).mono ?_
      rintro e w' ⟨rfl,rfl⟩
      go_wp2_with fail
      refine (hD.o).mono ?_
      rintro e w' ⟨rfl,rfl⟩
      go_upto_region 20 with (fail)
      rw[←HW3.o]
      go_wp2_with fail
      refine (hT.o).mono ?_
      rintro e w4 ⟨⟨A,c,he,hown⟩,hb4⟩
      subst he
      simp only at hown
      have hcv:=VN hown
      have HT4:Hid (w4.heap[w.heap.size+1]?=some (.cells #[.int .i64 4,.string ⟨#[]⟩,.int .i64 0,.slice none 0 0,.int .i64 (i:Int)] 71 (0,0))):=ae ((hb4.block _ (by omega)).trans HT3.o)
      have uz:Hid (w4.heap[w.heap.size]?=some (.cells #[.int .i64 0,.string ⟨#[]⟩,.int .i64 0,.slice none 0 0,.int .i64 0] 71 (0,0))):=ae ((hb4.block _ (by omega)).trans nO.o)
      have jA:Hid (Below w.heap.size w w4):=ae (HB3.o.trans (hb4.mono (by omega)))
      obtain⟨⟨a0,a1,a2,a3,a4⟩,b0,b1,b2,b3,b4⟩:=dN HT4.o
      clear hb4 hown
      go_upto_region 22 with (fail)
      obtain⟨wz,tC⟩:∃ wz,wz=w4.setCell ⟨w.heap.size+1,1,none⟩ (.string ⟨L.toArray⟩):=⟨_,rfl⟩
      have HZ:Hid (wz.heap[w.heap.size+1]?=some (.cells #[.int .i64 4,.string ⟨L.toArray⟩,.int .i64 0,.slice none 0 0,.int .i64 (i:Int)] 71 (0,0))):=ae (by rw[tC];exact nP (k:=1) HT4.o)
      have LQ:Hid (wz.heap[w.heap.size]?=some (.cells #[.int .i64 0,.string ⟨#[]⟩,.int .i64 0,.slice none 0 0,.int .i64 0] 71 (0,0))):=ae (by rw[tC];exact (aI _ ⟨w.heap.size+1,1,none⟩ _ w.heap.size (by simp)).trans uz.o)
      have IY:Hid (Below w.heap.size w wz):=ae (by rw[tC];exact jA.o.setCell (p:=⟨w.heap.size+1,1,none⟩) (by simp) _)
      rw[←tC]
      clear tC
      obtain⟨⟨k0,k1,k2,k3,k4⟩,f0,f1,f2,f3,f4⟩:=dN HZ.o
      obtain⟨⟨l0,l1,l2,l3,l4⟩,q0,q1,q2,q3,q4⟩:=dN LQ.o
      go_wp2_with fail
      (try simp only[Exit.inBlock,Exit.then])
      refine aJ (iF rfl rfl rfl rfl rfl (dR LQ.o)) rfl ?_
      exact⟨by rw[hwh,HQ.o];exact⟨rfl,rfl⟩,dS IY.o (aF _)⟩
    ·have p45:Hid ((s[i].toNat:Int)=45):=ae (by simpa using h45)
     obtain⟨w3,ny⟩:∃ w3,w3=w2.setCell ⟨w.heap.size+1,0,none⟩ (.int .i64 3):=⟨_,rfl⟩
     have HT3:Hid (w3.heap[w.heap.size+1]?=some (.cells #[.int .i64 3,.string ⟨#[]⟩,.int .i64 0,.slice none 0 0,.int .i64 (i:Int)] 71 (0,0))):=ae (by rw[ny];exact nP (k:=0) HT2.o)
     have nO:Hid (w3.heap[w.heap.size]?=some (.cells #[.int .i64 0,.string ⟨#[]⟩,.int .i64 0,.slice none 0 0,.int .i64 0] 71 (0,0))):=ae (by rw[ny];exact (aI _ ⟨w.heap.size+1,0,none⟩ _ w.heap.size (by simp)).trans iI.o)
     have HB3:Hid (Below w.heap.size w w3):=ae (by rw[ny];exact HB2.o.setCell (p:=⟨w.heap.size+1,0,none⟩) (by simp) _)
     have hs3:w3.heap.size=w.heap.size+1+1:=by rw[ny];simp[World.setCell];omega
     have HW3:=ae ny
     obtain⟨⟨j0,j1,j2,j3,j4⟩,e0,e1,e2,e3,e4⟩:=dN HT2.o
     clear ny
     have hN:=ae (EL hP s i hi hs w3 (HE.o.below HB3.o))
     cases hq:jX s i with
     | none =>
       have HQ:Hid (iT s i false=(.mk 3 ⟨#[]⟩ 0 [] i,-1,12,(i:Int))):=ae (by
        unfold iT
        rw[oN.o]
        simp[hl,hd,p45.o,hq])
       clear oN
       rw[hq] at hN
       clear hq
       go_wp2_with fail
       refine (hW.o).mono ?_
       rintro e w' ⟨rfl,rfl⟩
       go_wp2_with fail
       refine (hL.o).mono ?_
       rintro e w' ⟨rfl,rfl⟩
       go_wp2_with fail
       refine (hD.o).mono ?_
       rintro e w' ⟨rfl,rfl⟩
       go_upto_region 14 with (fail)
       rw[←HW3.o]
       go_wp2_with fail
       refine (hN.o).mono ?_
       rintro e w4 ⟨he,hb4⟩
       unfold LP at he
       subst he
       have HB4:=ae hb4
       have HT4:Hid (w4.heap[w.heap.size+1]?=some (.cells #[.int .i64 3,.string ⟨#[]⟩,.int .i64 0,.slice none 0 0,.int .i64 (i:Int)] 71 (0,0))):=ae ((hb4.block _ (by omega)).trans HT3.o)
       have uz:Hid (w4.heap[w.heap.size]?=some (.cells #[.int .i64 0,.string ⟨#[]⟩,.int .i64 0,.slice none 0 0,.int .i64 0] 71 (0,0))):=ae ((hb4.block _ (by omega)).trans nO.o)
       have jA:Hid (Below w.heap.size w w4):=ae (HB3.o.trans (hb4.mono (by omega)))
       obtain⟨⟨a0,a1,a2,a3,a4⟩,b0,b1,b2,b3,b4⟩:=dN HT4.o
       clear hb4
       go_upto_region 22 with (fail)
       obtain⟨wz,tC⟩:∃ wz,wz=w4.setCell ⟨w.heap.size+1,2,none⟩ (.int .i64 0):=⟨_,rfl⟩
       have HZ:Hid (wz.heap[w.heap.size+1]?=some (.cells #[.int .i64 3,.string ⟨#[]⟩,.int .i64 0,.slice none 0 0,.int .i64 (i:Int)] 71 (0,0))):=ae (by rw[tC];exact nP (k:=2) HT4.o)
       have LQ:Hid (wz.heap[w.heap.size]?=some (.cells #[.int .i64 0,.string ⟨#[]⟩,.int .i64 0,.slice none 0 0,.int .i64 0] 71 (0,0))):=ae (by rw[tC];exact (aI _ ⟨w.heap.size+1,2,none⟩ _ w.heap.size (by simp)).trans uz.o)
       have IY:Hid (Below w.heap.size w wz):=ae (by rw[tC];exact jA.o.setCell (p:=⟨w.heap.size+1,2,none⟩) (by simp) _)
       rw[←tC]
       clear tC
       obtain⟨⟨k0,k1,k2,k3,k4⟩,f0,f1,f2,f3,f4⟩:=dN HZ.o
       obtain⟨⟨l0,l1,l2,l3,l4⟩,q0,q1,q2,q3,q4⟩:=dN LQ.o
       go_wp2_with fail
       (try simp only[Exit.inBlock,Exit.then])
       refine aJ (iF rfl rfl rfl rfl rfl (dR LQ.o)) rfl ?_
       exact⟨by rw[hwh,HQ.o];exact⟨rfl,rfl⟩,dS IY.o (aF _)⟩
     | some ne =>
       obtain⟨n,en⟩:=ne
       have HQ:Hid (iT s i false=(.mk 3 ⟨#[]⟩ n [] i,(en:Int),0,0)):=ae (by
        unfold iT
        rw[oN.o]
        simp[hl,hd,p45.o,hq])
       clear oN
       rw[hq] at hN
       clear hq
       have hneg:decide ((en:Int)<0)=false:=by simp
       go_wp2_with fail
       refine (hW.o).mono ?_
       rintro e w' ⟨rfl,rfl⟩
       go_wp2_with fail
       refine (hL.o).mono ?_
       rintro e w' ⟨rfl,rfl⟩
       go_wp2_with fail
       refine (hD.o).mono ?_
       rintro e w' ⟨rfl,rfl⟩
       go_upto_region 14 with (fail)
       rw[←HW3.o]
       go_wp2_with fail
       refine (hN.o).mono ?_
       rintro e w4 ⟨he,hb4⟩
       unfold LP at he
       subst he
       have HB4:=ae hb4
       have HT4:Hid (w4.heap[w.heap.size+1]?=some (.cells #[.int .i64 3,.string ⟨#[]⟩,.int .i64 0,.slice none 0 0,.int .i64 (i:Int)] 71 (0,0))):=ae ((hb4.block _ (by omega)).trans HT3.o)
       have uz:Hid (w4.heap[w.heap.size]?=some (.cells #[.int .i64 0,.string ⟨#[]⟩,.int .i64 0,.slice none 0 0,.int .i64 0] 71 (0,0))):=ae ((hb4.block _ (by omega)).trans nO.o)
       have jA:Hid (Below w.heap.size w w4):=ae (HB3.o.trans (hb4.mono (by omega)))
       obtain⟨⟨a0,a1,a2,a3,a4⟩,b0,b1,b2,b3,b4⟩:=dN HT4.o
       clear hb4
       go_upto_region 22 with (fail)
       obtain⟨wz,tC⟩:∃ wz,wz=w4.setCell ⟨w.heap.size+1,2,none⟩ (.int .i64 n):=⟨_,rfl⟩
       have HZ:Hid (wz.heap[w.heap.size+1]?=some (.cells #[.int .i64 3,.string ⟨#[]⟩,.int .i64 n,.slice none 0 0,.int .i64 (i:Int)] 71 (0,0))):=ae (by rw[tC];exact nP (k:=2) HT4.o)
       have LQ:Hid (wz.heap[w.heap.size]?=some (.cells #[.int .i64 0,.string ⟨#[]⟩,.int .i64 0,.slice none 0 0,.int .i64 0] 71 (0,0))):=ae (by rw[tC];exact (aI _ ⟨w.heap.size+1,2,none⟩ _ w.heap.size (by simp)).trans uz.o)
       have IY:Hid (Below w.heap.size w wz):=ae (by rw[tC];exact jA.o.setCell (p:=⟨w.heap.size+1,2,none⟩) (by simp) _)
       rw[←tC]
       clear tC
       obtain⟨⟨k0,k1,k2,k3,k4⟩,f0,f1,f2,f3,f4⟩:=dN HZ.o
       obtain⟨⟨l0,l1,l2,l3,l4⟩,q0,q1,q2,q3,q4⟩:=dN LQ.o
       go_wp2_with fail
       (try simp only[Exit.inBlock,Exit.then])
       refine aJ (iF rfl rfl rfl rfl rfl (dR LQ.o)) rfl ?_
       exact⟨by rw[hwh,HQ.o];exact⟨rfl,rfl⟩,dS IY.o (aF _)⟩
   ·rw[hd] at hD
    obtain⟨w3,ny⟩:∃ w3,w3=w2.setCell ⟨w.heap.size+1,0,none⟩ (.int .i64 3):=⟨_,rfl⟩
    have HT3:Hid (w3.heap[w.heap.size+1]?=some (.cells #[.int .i64 3,.string ⟨#[]⟩,.int .i64 0,.slice none 0 0,.int .i64 (i:Int)] 71 (0,0))):=ae (by rw[ny];exact nP (k:=0) HT2.o)
    have nO:Hid (w3.heap[w.heap.size]?=some (.cells #[.int .i64 0,.string ⟨#[]⟩,.int .i64 0,.slice none 0 0,.int .i64 0] 71 (0,0))):=ae (by rw[ny];exact (aI _ ⟨w.heap.size+1,0,none⟩ _ w.heap.size (by simp)).trans iI.o)
    have HB3:Hid (Below w.heap.size w w3):=ae (by rw[ny];exact HB2.o.setCell (p:=⟨w.heap.size+1,0,none⟩) (by simp) _)
    have hs3:w3.heap.size=w.heap.size+1+1:=by rw[ny];simp[World.setCell];omega
    have HW3:=ae ny
    obtain⟨⟨j0,j1,j2,j3,j4⟩,e0,e1,e2,e3,e4⟩:=dN HT2.o
    clear ny
    have hN:=ae (EL hP s i hi hs w3 (HE.o.below HB3.o))
    cases hq:jX s i with
    | none =>
      have HQ:Hid (iT s i false=(.mk 3 ⟨#[]⟩ 0 [] i,-1,12,(i:Int))):=ae (by
       unfold iT
       rw[oN.o]
       simp[hl,hd,hq])
      clear oN
      rw[hq] at hN
      clear hq
      go_wp2_with fail
      refine (hW.o).mono ?_
      rintro e w' ⟨rfl,rfl⟩
      go_wp2_with fail
      refine (hL.o).mono ?_
      rintro e w' ⟨rfl,rfl⟩
      go_wp2_with fail
      refine (hD.o).mono ?_
      rintro e w' ⟨rfl,rfl⟩
      go_upto_region 14 with (fail)
      rw[←HW3.o]
      go_wp2_with fail
      refine (hN.o).mono ?_
      rintro e w4 ⟨he,hb4⟩
      unfold LP at he
      subst he
      have HB4:=ae hb4
      have HT4:Hid (w4.heap[w.heap.size+1]?=some (.cells #[.int .i64 3,.string ⟨#[]⟩,.int .i64 0,.slice none 0 0,.int .i64 (i:Int)] 71 (0,0))):=ae ((hb4.block _ (by omega)).trans HT3.o)
      have uz:Hid (w4.heap[w.heap.size]?=some (.cells #[.int .i64 0,.string ⟨#[]⟩,.int .i64 0,.slice none 0 0,.int .i64 0] 71 (0,0))):=ae ((hb4.block _ (by omega)).trans nO.o)
      have jA:Hid (Below w.heap.size w w4):=ae (HB3.o.trans (hb4.mono (by omega)))
      obtain⟨⟨a0,a1,a2,a3,a4⟩,b0,b1,b2,b3,b4⟩:=dN HT4.o
      clear hb4
      go_upto_region 22 with (fail)
      obtain⟨wz,tC⟩:∃ wz,wz=w4.setCell ⟨w.heap.size+1,2,none⟩ (.int .i64 0):=⟨_,rfl⟩
      have HZ:Hid (wz.heap[w.heap.size+1]?=some (.cells #[.int .i64 3,.string ⟨#[]⟩,.int .i64 0,.slice none 0 0,.int .i64 (i:Int)] 71 (0,0))):=ae (by rw[tC];exact nP (k:=2) HT4.o)
      have LQ:Hid (wz.heap[w.heap.size]?=some (.cells #[.int .i64 0,.string ⟨#[]⟩,.int .i64 0,.slice none 0 0,.int .i64 0] 71 (0,0))):=ae (by rw[tC];exact (aI _ ⟨w.heap.size+1,2,none⟩ _ w.heap.size (by simp)).trans uz.o)
      have IY:Hid (Below w.heap.size w wz):=ae (by rw[tC];exact jA.o.setCell (p:=⟨w.heap.size+1,2,none⟩) (by simp) _)
      rw[←tC]
      clear tC
      obtain⟨⟨k0,k1,k2,k3,k4⟩,f0,f1,f2,f3,f4⟩:=dN HZ.o
      obtain⟨⟨l0,l1,l2,l3,l4⟩,q0,q1,q2,q3,q4⟩:=dN LQ.o
      go_wp2_with fail
      (try simp only[Exit.inBlock,Exit.then])
      refine aJ (iF rfl rfl rfl rfl rfl (dR LQ.o)) rfl ?_
      exact⟨by rw[hwh,HQ.o];exact⟨rfl,rfl⟩,dS IY.o (aF _)⟩
    | some ne =>
      obtain⟨n,en⟩:=ne
      have HQ:Hid (iT s i false=(.mk 3 ⟨#[]⟩ n [] i,(en:Int),0,0)):=ae (by
       unfold iT
       rw[oN.o]
       simp[hl,hd,hq])
      clear oN
      rw[hq] at hN
      clear hq
      have hneg:decide ((en:Int)<0)=false:=by simp
      go_wp2_with fail
      refine (hW.o).mono ?_
      rintro e w' ⟨rfl,rfl⟩
      go_wp2_with fail
      refine (hL.o).mono ?_
      rintro e w' ⟨rfl,rfl⟩
      go_wp2_with fail
      refine (hD.o).mono ?_
      rintro e w' ⟨rfl,rfl⟩
      go_upto_region 14 with (fail)
      rw[←HW3.o]
      go_wp2_with fail
      refine (hN.o).mono ?_
      rintro e w4 ⟨he,hb4⟩
      unfold LP at he
      subst he
      have HB4:=ae hb4
      have HT4:Hid (w4.heap[w.heap.size+1]?=some (.cells #[.int .i64 3,.string ⟨#[]⟩,.int .i64 0,.slice none 0 0,.int .i64 (i:Int)] 71 (0,0))):=ae ((hb4.block _ (by omega)).trans HT3.o)
      have uz:Hid (w4.heap[w.heap.size]?=some (.cells #[.int .i64 0,.string ⟨#[]⟩,.int .i64 0,.slice none 0 0,.int .i64 0] 71 (0,0))):=ae ((hb4.block _ (by omega)).trans nO.o)
      have jA:Hid (Below w.heap.size w w4):=ae (HB3.o.trans (hb4.mono (by omega)))
      obtain⟨⟨a0,a1,a2,a3,a4⟩,b0,b1,b2,b3,b4⟩:=dN HT4.o
      clear hb4
      go_upto_region 22 with (fail)
      obtain⟨wz,tC⟩:∃ wz,wz=w4.setCell ⟨w.heap.size+1,2,none⟩ (.int .i64 n):=⟨_,rfl⟩
      have HZ:Hid (wz.heap[w.heap.size+1]?=some (.cells #[.int .i64 3,.string ⟨#[]⟩,.int .i64 n,.slice none 0 0,.int .i64 (i:Int)] 71 (0,0))):=ae (by rw[tC];exact nP (k:=2) HT4.o)
      have LQ:Hid (wz.heap[w.heap.size]?=some (.cells #[.int .i64 0,.string ⟨#[]⟩,.int .i64 0,.slice none 0 0,.int .i64 0] 71 (0,0))):=ae (by rw[tC];exact (aI _ ⟨w.heap.size+1,2,none⟩ _ w.heap.size (by simp)).trans uz.o)
      have IY:Hid (Below w.heap.size w wz):=ae (by rw[tC];exact jA.o.setCell (p:=⟨w.heap.size+1,2,none⟩) (by simp) _)
      rw[←tC]
      clear tC
      obtain⟨⟨k0,k1,k2,k3,k4⟩,f0,f1,f2,f3,f4⟩:=dN HZ.o
      obtain⟨⟨l0,l1,l2,l3,l4⟩,q0,q1,q2,q3,q4⟩:=dN LQ.o
      go_wp2_with fail
      (try simp only[Exit.inBlock,Exit.then])
      refine aJ (iF rfl rfl rfl rfl rfl (dR LQ.o)) rfl ?_
      exact⟨by rw[hwh,HQ.o];exact⟨rfl,rfl⟩,dS IY.o (aF _)⟩
  ·rw[hl] at hL
   have HQ:Hid (iT s i false=(.mk 2 (s.extract i (kP o9 s i)) 0 [] i,(kP o9 s i:Int),0,0)):=ae (by
    unfold iT
    rw[oN.o]
    simp[hl])
   clear oN
   obtain⟨k,hk⟩:∃ k,kP o9 s i=k:=⟨_,rfl⟩
   have hge:=qM (p:=o9) (s:=s) _ i rfl
   rw[hk] at hge HQ hR
   have hk1:i≤k:=hge.1
   have hk2:k≤s.size:=hge.2 (by omega)
   clear hge hk
   go_wp2_with fail
   refine (hW.o).mono ?_
   rintro e w' ⟨rfl,rfl⟩
   go_wp2_with fail
   refine (hL.o).mono ?_
   rintro e w' ⟨rfl,rfl⟩
   go_wp2_with fail
   refine (hR.o).mono ?_
   rintro e w' ⟨rfl,rfl⟩
   go_upto_region 11 with (fail)
   obtain⟨⟨j0,j1,j2,j3,j4⟩,e0,e1,e2,e3,e4⟩:=dN HT2.o
   go_region
   all_goals
    obtain⟨wz,tC⟩:∃ wz,wz=((w2.setCell ⟨w.heap.size+1,0,none⟩ (.int .i64 2)).setCell ⟨w.heap.size+1,1,none⟩ (.string (s.extract i k))).drew:=⟨_,rfl⟩
    have HZ:Hid (wz.heap[w.heap.size+1]?=some (.cells #[.int .i64 2,.string (s.extract i k),.int .i64 0,.slice none 0 0,.int .i64 (i:Int)] 71 (0,0))):=ae (by rw[tC];exact nP (k:=1) (nP (k:=0) HT2.o))
    have LQ:Hid (wz.heap[w.heap.size]?=some (.cells #[.int .i64 0,.string ⟨#[]⟩,.int .i64 0,.slice none 0 0,.int .i64 0] 71 (0,0))):=ae (by rw[tC];exact (aI _ ⟨w.heap.size+1,1,none⟩ _ w.heap.size (by simp)).trans ((aI _ ⟨w.heap.size+1,0,none⟩ _ w.heap.size (by simp)).trans iI.o))
    have IY:Hid (Below w.heap.size w wz):=ae (by rw[tC];exact ((HB2.o.setCell (p:=⟨w.heap.size+1,0,none⟩) (by simp) _).setCell (p:=⟨w.heap.size+1,1,none⟩) (by simp) _).drew)
    rw[←tC]
    clear tC
    obtain⟨⟨k0,k1,k2,k3,k4⟩,f0,f1,f2,f3,f4⟩:=dN HZ.o
    obtain⟨⟨l0,l1,l2,l3,l4⟩,q0,q1,q2,q3,q4⟩:=dN LQ.o
    go_wp2_with fail
    (try simp only[Exit.inBlock,Exit.then])
    refine aJ (iF rfl rfl rfl rfl rfl (dR LQ.o)) rfl ?_
    exact⟨by rw[hwh,HQ.o];exact⟨rfl,rfl⟩,dS IY.o (aF _)⟩
 ·rw[hwh] at hW
  cases hl:o9 s[i]
  ·rw[hl] at hL
   cases hd:oO s[i]
   ·rw[hd] at hD
    cases h45:((s[i].toNat:Int)==45)
    ·have p45:Hid (¬(s[i].toNat:Int)=45):=ae (by simpa using h45)
     cases uJ:((s[i].toNat:Int)==34)
     ·have p34:Hid (¬(s[i].toNat:Int)=34):=ae (by simpa using uJ)
      have HQ:Hid (iT s i true=(.mk 0 ⟨#[]⟩ 0 [] i,(i:Int)+1,12,(i:Int))):=ae (by
       unfold iT
       rw[oN.o]
       simp[hl,hd,p45.o,p34.o])
      clear oN
      go_wp2_with fail
      refine (hW.o).mono ?_
      rintro e w' ⟨rfl,rfl⟩
      go_wp2_with fail
      refine (hL.o).mono ?_
      rintro e w' ⟨rfl,rfl⟩
      go_wp2_with fail
      refine (hD.o).mono ?_
      rintro e w' ⟨rfl,rfl⟩
      go_wp2_with fail
      refine (hL.o).mono ?_
      rintro e w' ⟨rfl,rfl⟩
      go_wp2_with fail
      refine (hD.o).mono ?_
      rintro e w' ⟨rfl,rfl⟩
      obtain⟨⟨k0,k1,k2,k3,k4⟩,f0,f1,f2,f3,f4⟩:=dN HT2.o
      obtain⟨⟨l0,l1,l2,l3,l4⟩,q0,q1,q2,q3,q4⟩:=dN iI.o
      go_wp2_with fail
      (try simp only[Exit.inBlock,Exit.then])
      refine aJ (iF rfl rfl rfl rfl rfl (dR iI.o)) rfl ?_
      exact⟨by rw[hwh,HQ.o];exact⟨rfl,rfl⟩,dS HB2.o (aF _)⟩
     ·have p34:Hid ((s[i].toNat:Int)=34):=ae (by simpa using uJ)
      have HQ:Hid (iT s i true=(.mk 0 ⟨#[]⟩ 0 [] i,(i:Int)+1,11,(i:Int))):=ae (by
       unfold iT
       rw[oN.o]
       simp[hl,hd,p45.o,p34.o])
      clear oN
      go_wp2_with fail
      refine (hW.o).mono ?_
      rintro e w' ⟨rfl,rfl⟩
      go_wp2_with fail
      refine (hL.o).mono ?_
      rintro e w' ⟨rfl,rfl⟩
      go_wp2_with fail
      refine (hD.o).mono ?_
      rintro e w' ⟨rfl,rfl⟩
      obtain⟨⟨k0,k1,k2,k3,k4⟩,f0,f1,f2,f3,f4⟩:=dN HT2.o
      obtain⟨⟨l0,l1,l2,l3,l4⟩,q0,q1,q2,q3,q4⟩:=dN iI.o
      go_wp2_with fail
      (try simp only[Exit.inBlock,Exit.then])
      refine aJ (iF rfl rfl rfl rfl rfl (dR iI.o)) rfl ?_
      exact⟨by rw[hwh,HQ.o];exact⟨rfl,rfl⟩,dS HB2.o (aF _)⟩
    ·have p45:Hid ((s[i].toNat:Int)=45):=ae (by simpa using h45)
     have HQ:Hid (iT s i true=(.mk 0 ⟨#[]⟩ 0 [] i,(i:Int)+1,11,(i:Int))):=ae (by
      unfold iT
      rw[oN.o]
      simp[hl,hd,p45.o])
     clear oN
     go_wp2_with fail
     refine (hW.o).mono ?_
     rintro e w' ⟨rfl,rfl⟩
     go_wp2_with fail
     refine (hL.o).mono ?_
     rintro e w' ⟨rfl,rfl⟩
     go_wp2_with fail
     refine (hD.o).mono ?_
     rintro e w' ⟨rfl,rfl⟩
     obtain⟨⟨k0,k1,k2,k3,k4⟩,f0,f1,f2,f3,f4⟩:=dN HT2.o
     obtain⟨⟨l0,l1,l2,l3,l4⟩,q0,q1,q2,q3,q4⟩:=dN iI.o
     go_wp2_with fail
     (try simp only[Exit.inBlock,Exit.then])
     refine aJ (iF rfl rfl rfl rfl rfl (dR iI.o)) rfl ?_
     exact⟨by rw[hwh,HQ.o];exact⟨rfl,rfl⟩,dS HB2.o (aF _)⟩
   ·rw[hd] at hD
    have HQ:Hid (iT s i true=(.mk 0 ⟨#[]⟩ 0 [] i,(i:Int)+1,11,(i:Int))):=ae (by
     unfold iT
     rw[oN.o]
     simp[hl,hd])
    clear oN
    go_wp2_with fail
    refine (hW.o).mono ?_
    rintro e w' ⟨rfl,rfl⟩
    go_wp2_with fail
    refine (hL.o).mono ?_
    rintro e w' ⟨rfl,rfl⟩
    go_wp2_with fail
    refine (hD.o).mono ?_
    rintro e w' ⟨rfl,rfl⟩
    obtain⟨⟨k0,k1,k2,k3,k4⟩,f0,f1,f2,f3,f4⟩:=dN HT2.o
    obtain⟨⟨l0,l1,l2,l3,l4⟩,q0,q1,q2,q3,q4⟩:=dN iI.o
    go_wp2_with fail
    (try simp only[Exit.inBlock,Exit.then])
    refine aJ (iF rfl rfl rfl rfl rfl (dR iI.o)) rfl ?_
    exact⟨by rw[hwh,HQ.o];exact⟨rfl,rfl⟩,dS HB2.o (aF _)⟩
  ·rw[hl] at hL
   have HQ:Hid (iT s i true=(.mk 0 ⟨#[]⟩ 0 [] i,(i:Int)+1,11,(i:Int))):=ae (by
    unfold iT
    rw[oN.o]
    simp[hl])
   clear oN
   go_wp2_with fail
   refine (hW.o).mono ?_
   rintro e w' ⟨rfl,rfl⟩
   go_wp2_with fail
   refine (hL.o).mono ?_
   rintro e w' ⟨rfl,rfl⟩
   obtain⟨⟨k0,k1,k2,k3,k4⟩,f0,f1,f2,f3,f4⟩:=dN HT2.o
   obtain⟨⟨l0,l1,l2,l3,l4⟩,q0,q1,q2,q3,q4⟩:=dN iI.o
   go_wp2_with fail
   (try simp only[Exit.inBlock,Exit.then])
   refine aJ (iF rfl rfl rfl rfl rfl (dR iI.o)) rfl ?_
   exact⟨by rw[hwh,HQ.o];exact⟨rfl,rfl⟩,dS HB2.o (aF _)⟩
theorem Yv (g gO m O6:Nat)(vd:Value)(s:ByteArray)(cur:Array Value)(A:Option Addr)(n c base:Nat)(qs:List TP)(k xn a:Int)(x:ByteArray)(l:List T)(A0:Option Addr)(n0 c0:Nat)(w:World)
 (hg:w.heap[g]?=some (.cells #[.string s,.slice (some ⟨gO,0,none⟩) (m+1) O6,vd] 102 (0,0)))
 (hO:w.heap[gO]?=some (.cells cur 71 (0,0)))(O7:cur[m*5+3]?=some (.slice A n c))(hm:m≤12)(hn:n≤600)(hbase:base≤w.heap.size)(hn0:n0=l.length)
 (hK:w.ownsRow base 71 5 (.slice A n c) n (ed qs))(VP:∀ ad,A=some ad→ad.block≠g∧ad.block≠gO) :
 Calls Tryz.prog 54 #[.pointer (some ⟨g,0,none⟩),.agg #[.int .i64 k,.string x,.int .i64 xn,.slice A0 n0 c0,.int .i64 a]] w fun e w'=>e=.returned (.tuple #[])∧VO w w' base gO (m*5+3) cur A n qs ((.mk k x xn l a:T),A0,c0):=by
 have g1:w.cell? ⟨g,1,none⟩=some (.slice (some ⟨gO,0,none⟩) (m+1) O6):=by simp[World.cell?,hg]
 have hgl:g<w.heap.size:=(aU.1 hg).1
 have c3:w.cell? ⟨gO,m*5+3,none⟩=some (.slice A n c):=by simp[World.cell?,hO,O7]
 have ZW:gO<w.heap.size:=(aU.1 hO).1
 have e1:((m+1:Nat):Int)=(m:Int)+1:=by omega
 obtain⟨w1,dZ⟩:∃ w1,w1=w.alloc (.cells #[.int .i64 k,.string x,.int .i64 xn,.slice A0 n0 c0,.int .i64 a] 71):=⟨_,rfl⟩
 have hb1:Below w.heap.size w w1:=by rw[dZ];exact (aG _ _).alloc (aF _) _
 have hs1:w1.heap.size=w.heap.size+1:=by rw[dZ];simp
 have hx1:w1.heap[w.heap.size]?=some (.cells #[.int .i64 k,.string x,.int .i64 xn,.slice A0 n0 c0,.int .i64 a] 71 (0,0)):=by rw[dZ];exact aH w _
 have HG:=ae hg
 have HO:=ae hO
 have HW1:=ae dZ
 have jJ:=ae hx1
 have HB1:=ae hb1
 have HK:=ae hK
 have HC:=ae O7
 obtain⟨i0,hi,hz0,hz1,hz2⟩:=info_parts pO
 have HN0:=ae hn0
 clear hg hO dZ hx1 hb1 hK O7 hn0
 go_enter Tryz.func54,Tryz.ntmps54
 go_upto_region 3 with (fail)
 rw[←HW1.o]
 go_cut [12,13] (fun _ u wx=>∃ b,u=.bool b∧Below w1.heap.size w1 wx)
 case first =>
  go_region
  all_goals
   go_wp2_with fail
   go_meet
   exact⟨_,rfl,((aG w1.heap.size w1).alloc (aF _) _).drew⟩
 case rest =>
 obtain⟨b,rfl,hbq⟩:=hcut
 obtain⟨wq,rfl⟩:∃ wq,wq=wc:=⟨_,rfl⟩
 have hsq:=hbq.size
 have hgq:wq.heap[g]?=w.heap[g]?:=(hbq.block g (by omega)).trans (HB1.o.block g hgl)
 have Yw:wq.heap[gO]?=w.heap[gO]?:=(hbq.block gO (by omega)).trans (HB1.o.block gO ZW)
 have hxq:wq.heap[w.heap.size]?=some (.cells #[.int .i64 k,.string x,.int .i64 xn,.slice A0 n0 c0,.int .i64 a] 71 (0,0)):=(hbq.block _ (by omega)).trans jJ.o
 have uI:Hid (Below w.heap.size w wq):=ae (HB1.o.trans (hbq.mono (by omega)))
 have hKq:=ae (own_below HK.o uI.o)
 have hKl:Hid (∀ ad,A=some ad→ad.block<w.heap.size):=ae (fun ad e=>(HK.o.lt ad.block (by rw[e];rfl)).2)
 have aa8:Hid (wq.cell? ⟨gO,m*5+3,none⟩=some (.slice A n c)):=ae ((aT Yw).trans c3)
 have hfO:Hid (wq.frozen? ⟨gO,m*5+3,none⟩=false):=ae (by simp[World.frozen?,Yw,HO.o])
 obtain⟨⟨x0,x1,x2,x3,x4⟩,_,_,_,_,_⟩:=dN hxq
 have aep:wq.cell? ⟨g,1,none⟩=some (.slice (some ⟨gO,0,none⟩) (m+1) O6):=(aT hgq).trans g1
 have oU:Hid (∀ w':World,w'.heap[g]?=wq.heap[g]?→w'.heap[gO]?=wq.heap[gO]?→w'.heap[w.heap.size]?=wq.heap[w.heap.size]?→w'.cell? ⟨g,1,none⟩=some (.slice (some ⟨gO,0,none⟩) (m+1) O6)∧w'.cell? ⟨gO,m*5+3,none⟩=some (.slice A n c)∧w'.cell? ⟨w.heap.size,0,none⟩=some (.int .i64 k)∧w'.cell? ⟨w.heap.size,1,none⟩=some (.string x)∧w'.cell? ⟨w.heap.size,2,none⟩=some (.int .i64 xn)∧w'.cell? ⟨w.heap.size,3,none⟩=some (.slice A0 n0 c0)∧w'.cell? ⟨w.heap.size,4,none⟩=some (.int .i64 a)):=ae (fun w' h1 h2 h3=>⟨(aT h1).trans aep,(aT h2).trans aa8.o,(aT h3).trans x0,(aT h3).trans x1,(aT h3).trans x2,(aT h3).trans x3,(aT h3).trans x4⟩)
 have em:((m:Int)+1-1)=(m:Int):=by omega
 have ew:IntKind.i64.wrap (m:Int)=(m:Int):=by unfold IntKind.wrap;simp[IntKind.bits,IntKind.signed];omega
 have el:(m:Int)<(m:Int)+1:=by omega
 have hOq:=ae Yw
 clear hbq hgq Yw hxq x0 x1 x2 x3 x4 aep
 cases b
 ·go_upto_region 6 with (fail)
  refine dK.iP (fun w'=>w'.cell? ⟨g,1,none⟩=some (.slice (some ⟨gO,0,none⟩) (m+1) O6)∧w'.cell? ⟨gO,m*5+3,none⟩=some (.slice A n c)∧w'.cell? ⟨w.heap.size,0,none⟩=some (.int .i64 k)∧w'.cell? ⟨w.heap.size,1,none⟩=some (.string x)∧w'.cell? ⟨w.heap.size,2,none⟩=some (.int .i64 xn)∧w'.cell? ⟨w.heap.size,3,none⟩=some (.slice A0 n0 c0)∧w'.cell? ⟨w.heap.size,4,none⟩=some (.int .i64 a)) 20 (by kernel_rfl) (oU.o _ rfl rfl rfl) (fun hHeld=>?_)
  refine dK.RH (i:=0) (C:=[0,20]) (v:=?an0) rfl (by kernel_rfl) aA (bD ⟨by rfl,?aeq⟩) ‹_› ?_
  case aeq=>(intro w1 hSw;(try dsimp only at hSw);go_simp;try with_reducible rfl)
  simp only[ah,ai,Act.put,au,ay,az]
  refine dK.RH (i:=1) (C:=[1,20]) (v:=?an1) rfl (by kernel_rfl) aA (bD ⟨by rfl,?aer⟩) ‹_› ?_
  case aer=>(intro w1 hSw;(try dsimp only at hSw);go_simp;try with_reducible rfl)
  simp only[ah,aj,ai,Act.put,au,ay,az]
  refine dK.RH (i:=2) (C:=[2,20]) (v:=?an2) rfl (by kernel_rfl) aA (bD ⟨by rfl,?aes⟩) ‹_› ?_
  case aes=>(intro w1 hSw;(try dsimp only at hSw);go_simp;try with_reducible rfl)
  simp only[ah,aj,ai,Act.put,au,ay,az]
  refine dK.RH (i:=3) (C:=[3,20]) (v:=?an3) rfl (by kernel_rfl) aA (bD ⟨by rfl,?aet⟩) ‹_› ?_
  case aet=>(intro w1 hSw;(try dsimp only at hSw);go_simp;try with_reducible rfl)
  simp only[ah,aj,ai,Act.put,au,ay,az]
  refine dK.RH (i:=4) (C:=[4,20]) (v:=?an4) rfl (by kernel_rfl) aA (bD ⟨by rfl,?aeu⟩) ‹_› ?_
  case aeu=>(intro w1 hSw;(try dsimp only at hSw);go_simp;try with_reducible rfl)
  simp only[ah,aj,ai,Act.put,au,ay,az]
  refine dK.RH (i:=5) (C:=[5,20]) (v:=?an5) rfl (by kernel_rfl) aA (bD ⟨by rfl,?aev⟩) ‹_› ?_
  case aev=>(intro w1 hSw;(try dsimp only at hSw);go_simp;try with_reducible rfl)
  simp only[ah,aj,ai,Act.put,au,ay,az]
  refine dK.RH (i:=6) (C:=[6,20]) (v:=?an6) rfl (by kernel_rfl) aA (bD ⟨by rfl,?aew⟩) ‹_› ?_
  case aew=>(intro w1 hSw;(try dsimp only at hSw);go_simp;try with_reducible rfl)
  simp only[ah,aj,ai,Act.put,au,ay,az]
  refine dK.RH (i:=7) (C:=[7,20]) (v:=?an7) rfl (by kernel_rfl) aA (bD ⟨by rfl,?aex⟩) ‹_› ?_
  case aex=>(intro w1 hSw;(try dsimp only at hSw);go_simp;try with_reducible rfl)
  simp only[ah,aj,ai,Act.put,au,ay,az]
  refine dK.RH (i:=8) (C:=[8,20]) (v:=?an8) rfl (by kernel_rfl) aA (bD ⟨by rfl,?aey⟩) ‹_› ?_
  case aey=>(intro w1 hSw;(try dsimp only at hSw);go_simp;try with_reducible rfl)
  simp only[ah,aj,ai,Act.put,au,ay,az]
  refine dK.RH (i:=9) (C:=[9,20]) (v:=?ale) rfl (by kernel_rfl) aA (bD ⟨by rfl,?aa9⟩) ‹_› ?_
  case aa9=>(intro w1 hSw;(try dsimp only at hSw);go_simp;try with_reducible rfl)
  simp only[ah,aj,ai,Act.put,au,ay,az]
  refine dK.RH (i:=10) (C:=[10,20]) (v:=?alf) rfl (by kernel_rfl) aA (bD ⟨by rfl,?aba⟩) ‹_› ?_
  case aba=>(intro w1 hSw;(try dsimp only at hSw);go_simp;try with_reducible rfl)
  simp only[ah,aj,ai,Act.put,au,ay,az]
  refine dK.RH (i:=11) (C:=[11,20]) (v:=?alg) rfl (by kernel_rfl) aA (bD ⟨by rfl,?abb⟩) ‹_› ?_
  case abb=>(intro w1 hSw;(try dsimp only at hSw);go_simp;try with_reducible rfl)
  simp only[ah,aj,ai,Act.put,au,ay,az]
  refine dK.RH (i:=12) (C:=[12,20]) (v:=?alh) rfl (by kernel_rfl) aA (bD ⟨by rfl,?abd⟩) ‹_› ?_
  case abd=>(intro w1 hSw;(try dsimp only at hSw);go_simp;try with_reducible rfl)
  simp only[ah,aj,ai,Act.put,au,ay,az]
  refine dK.RH (i:=13) (C:=[13,20]) (v:=?ali) rfl (by kernel_rfl) aA (bD ⟨by rfl,?abe⟩) ‹_› ?_
  case abe=>(intro w1 hSw;(try dsimp only at hSw);go_simp;try with_reducible rfl)
  simp only[ah,aj,ai,Act.put,au,ay,az]
  refine dK.RH (i:=14) (C:=[14,20]) (v:=?alj) rfl (by kernel_rfl) aA (bD ⟨by rfl,?abf⟩) ‹_› ?_
  case abf=>(intro w1 hSw;(try dsimp only at hSw);go_simp;try with_reducible rfl)
  simp only[ah,aj,ai,Act.put,au,ay,az]
  refine dK.RH (i:=15) (C:=[15,20]) (v:=?alk) rfl (by kernel_rfl) aA (bD ⟨by rfl,?abg⟩) ‹_› ?_
  case abg=>(intro w1 hSw;(try dsimp only at hSw);go_simp;try with_reducible rfl)
  simp only[ah,aj,ai,Act.put,au,ay,az]
  refine dK.dM (rs:=[16]) (by kernel_rfl) (by simp) ?_
  refine (dK.dJ.cons rfl (fun K hK=>?_) dK.dJ.nil)
  refine LU _ rfl 51 rfl k xn a x A0 n0 c0 rfl ?_
  refine hK.o _ _ (oU.o _ (aP _ _ _ (by simp;omega)) (aP _ _ _ (by simp;omega)) (aP _ _ _ (by simp;omega))) (fun hHeld=>?_)
  clear hK K
  simp only[ah,aj,ai,Act.put,au,ay,az,World.size_alloc,World.size_drew]
  refine dK.dM (rs:=[17]) (by kernel_rfl) (by simp) ?_
  refine (dK.dJ.cons rfl (fun K hK=>?_) dK.dJ.nil)
  refine step_append_lies _ rfl _ _ 69 rfl base 71 i0 _ 5 64 Tryz.underlying69 hi hz0 hz1 hz2 rfl (by decide) (.slice A n c) n (ed qs) rfl (own_below hKq.o ((aG wq.heap.size wq).drew.trans ((aG wq.heap.size wq.drew).alloc (aF _) (.cells #[.int .i64 k,.string x,.int .i64 xn,.slice A0 n0 c0,.int .i64 a] 71)))) ⟨wq.heap.size,0,none⟩ 1 1 [.int .i64 k,.string x,.int .i64 xn,.slice A0 n0 c0,.int .i64 a] rfl rfl (bz (aH wq.drew (.cells #[.int .i64 k,.string x,.int .i64 xn,.slice A0 n0 c0,.int .i64 a] 71))) ?a0 (by decide) ?a1 ?a2 ?a3 _ rfl ?_
  case a0=>(intro u hu;simp only[bZ,bI,or_false] at hu;rcases hu with rfl|rfl|rfl|rfl|rfl <;> rfl)
  case a1=>(unfold maxLen;omega)
  case a2=>omega
  case a3=>(simp;omega)
  intro g5 cap5 w5 hown5 fJ jP Au
  have hkeep:∀ b,b<wq.heap.size→(∀ ad,A=some ad→ad.block≠b)→w5.heap[b]?=wq.heap[b]?:=fun b hb hA=>(fJ.block b (by simp;omega) (fun e=>by cases A with|none=>simp[Value.ownBlock] at e|some ad=>exact hA ad rfl (by simpa [Value.ownBlock] using e.symm))).trans (aP wq.drew _ b hb)
  have hk1:=hkeep g (by omega) (fun ad e=>(VP ad e).1)
  have hk2:=hkeep gO (by omega) (fun ad e=>(VP ad e).2)
  have hk3:=hkeep w.heap.size (by omega) (fun ad e e2=>by have:=(hKl.o ad e);omega)
  have HS5:=ae (bU hk1 (bU hk2 hk3))
  have Nw:Hid (Aside (fun b=>∃ ad,A=some ad∧ad.block=b) w w5):=ae (((Aside.of_below uI.o).drew.alloc _).grown fJ (fun b e _=>by cases A with|none=>simp[Value.ownBlock] at e|some ad=>exact⟨ad,rfl,by simpa [Value.ownBlock] using e⟩))
  have sW:Hid ((∃ ad,A=some ad∧ad.block=g5)∨w.heap.size≤g5):=ae (jP.elim (fun e=>bD (by cases A with|none=>simp[Value.ownBlock] at e|some ad=>exact⟨ad,rfl,by simpa [Value.ownBlock] using e⟩)) (fun e=>Or.inr (by simp at e;omega)))
  have jq:=ae hown5
  have Ud:=ae Au
  have VQ:Hid (w5.heap[gO]?=some (.cells cur 71 (0,0))):=ae (hk2.trans (hOq.o.trans HO.o))
  have hne5:g5≠gO:=sW.o.elim (fun h=>h.elim fun ad e2=>by have:=(VP ad e2.1).2;omega) (fun h=>by omega)
  have hfz:w5.frozen? ⟨gO,m*5+3,none⟩=false:=(World.frozen?_of_block hk2).trans hfO.o
  have hcO:w5.cell? ⟨gO,m*5+3,none⟩=some (.slice A n c):=(aT hk2).trans aa8.o
  clear hown5 fJ jP Au hkeep
  refine hK.o _ _ (oU.o _ hk1 hk2 hk3) (fun hHeld=>?_)
  clear hK K hk1 hk2 hk3
  simp only[ah,aj,ai,Act.put,au,ay,az]
  refine dK.RH (i:=18) (C:=[18,19,20]) (v:=?alm) rfl (by kernel_rfl) aA (bD ⟨by rfl,?abh⟩) ‹_› ?_
  case abh=>(intro w1 hSw;(try dsimp only at hSw);go_simp;try with_reducible rfl)
  simp only[ah,aj,ai,Act.put,au,ay,az]
  refine dK.RH (i:=19) (C:=[19,20]) (v:=?aln) rfl (by kernel_rfl) aA (bD ⟨by rfl,?abj⟩) ‹_› ?_
  case abj=>(intro w1 hSw;(try dsimp only at hSw);go_simp;try with_reducible rfl)
  simp only[ah,aj,ai,Act.put,au,ay,az]
  refine dK.dM (rs:=[20]) (by kernel_rfl) (by simp) ?_
  refine dK.dJ.last rfl (fun K hK=>?_)
  simp only[ah,aj,ai]
  go_simp
  refine hK.o _ _ ?_
  clear hK K
  refine dK.gW (by kernel_rfl) ?_ _
  have xe:=ae (Jp (x:=((.mk k x xn l a:T),A0,c0)) (o:=m*5+3) Nw.o sW.o (by rw[HN0.o] at jq;exact jq.o) VQ.o hne5)
  clear Nw sW jq Ud VQ hfz hcO oU HS5
  go_wp2_with fail
  first
   | refine bodyPost_end (results_none rfl _ _ _) rfl ?_
   | refine aJ (results_none rfl _ _ _) rfl ?_
  exact⟨rfl,xe.o⟩
 ·go_upto_region 4 with (fail)
  refine dK.iP (fun w'=>w'.cell? ⟨g,1,none⟩=some (.slice (some ⟨gO,0,none⟩) (m+1) O6)∧w'.cell? ⟨gO,m*5+3,none⟩=some (.slice A n c)∧w'.cell? ⟨w.heap.size,0,none⟩=some (.int .i64 k)∧w'.cell? ⟨w.heap.size,1,none⟩=some (.string x)∧w'.cell? ⟨w.heap.size,2,none⟩=some (.int .i64 xn)∧w'.cell? ⟨w.heap.size,3,none⟩=some (.slice A0 n0 c0)∧w'.cell? ⟨w.heap.size,4,none⟩=some (.int .i64 a)) 21 (by kernel_rfl) (oU.o _ rfl rfl rfl) (fun hHeld=>?_)
  refine dK.RH (i:=0) (C:=[0,21]) (v:=?an9) rfl (by kernel_rfl) aA (bD ⟨by rfl,?aez⟩) ‹_› ?_
  case aez=>(intro w1 hSw;(try dsimp only at hSw);go_simp;try with_reducible rfl)
  simp only[ah,ai,Act.put,au,ay,az]
  refine dK.RH (i:=1) (C:=[1,21]) (v:=?aoa) rfl (by kernel_rfl) aA (bD ⟨by rfl,?aeA⟩) ‹_› ?_
  case aeA=>(intro w1 hSw;(try dsimp only at hSw);go_simp;try with_reducible rfl)
  simp only[ah,aj,ai,Act.put,au,ay,az]
  refine dK.RH (i:=2) (C:=[2,21]) (v:=?aob) rfl (by kernel_rfl) aA (bD ⟨by rfl,?aeB⟩) ‹_› ?_
  case aeB=>(intro w1 hSw;(try dsimp only at hSw);go_simp;try with_reducible rfl)
  simp only[ah,aj,ai,Act.put,au,ay,az]
  refine dK.RH (i:=3) (C:=[3,21]) (v:=?aoc) rfl (by kernel_rfl) aA (bD ⟨by rfl,?aeC⟩) ‹_› ?_
  case aeC=>(intro w1 hSw;(try dsimp only at hSw);go_simp;try with_reducible rfl)
  simp only[ah,aj,ai,Act.put,au,ay,az]
  refine dK.RH (i:=4) (C:=[4,21]) (v:=?aod) rfl (by kernel_rfl) aA (bD ⟨by rfl,?aeD⟩) ‹_› ?_
  case aeD=>(intro w1 hSw;(try dsimp only at hSw);go_simp;try with_reducible rfl)
  simp only[ah,aj,ai,Act.put,au,ay,az]
  refine dK.RH (i:=5) (C:=[5,21]) (v:=?aoe) rfl (by kernel_rfl) aA (bD ⟨by rfl,?aeE⟩) ‹_› ?_
  case aeE=>(intro w1 hSw;(try dsimp only at hSw);go_simp;try with_reducible rfl)
  simp only[ah,aj,ai,Act.put,au,ay,az]
  refine dK.RH (i:=6) (C:=[6,21]) (v:=?aof) rfl (by kernel_rfl) aA (bD ⟨by rfl,?aeF⟩) ‹_› ?_
  case aeF=>(intro w1 hSw;(try dsimp only at hSw);go_simp;try with_reducible rfl)
  simp only[ah,aj,ai,Act.put,au,ay,az]
  refine dK.RH (i:=7) (C:=[7,21]) (v:=?aog) rfl (by kernel_rfl) aA (bD ⟨by rfl,?aeG⟩) ‹_› ?_
  case aeG=>(intro w1 hSw;(try dsimp only at hSw);go_simp;try with_reducible rfl)
  simp only[ah,aj,ai,Act.put,au,ay,az]
  refine dK.RH (i:=8) (C:=[8,21]) (v:=?aoh) rfl (by kernel_rfl) aA (bD ⟨by rfl,?aeH⟩) ‹_› ?_
  case aeH=>(intro w1 hSw;(try dsimp only at hSw);go_simp;try with_reducible rfl)
  simp only[ah,aj,ai,Act.put,au,ay,az]
  refine dK.RH (i:=9) (C:=[9,21]) (v:=?alo) rfl (by kernel_rfl) aA (bD ⟨by rfl,?abk⟩) ‹_› ?_
  case abk=>(intro w1 hSw;(try dsimp only at hSw);go_simp;try with_reducible rfl)
  simp only[ah,aj,ai,Act.put,au,ay,az]
  refine dK.RH (i:=10) (C:=[10,21]) (v:=?alp) rfl (by kernel_rfl) aA (bD ⟨by rfl,?abl⟩) ‹_› ?_
  case abl=>(intro w1 hSw;(try dsimp only at hSw);go_simp;try with_reducible rfl)
  simp only[ah,aj,ai,Act.put,au,ay,az]
  refine dK.RH (i:=11) (C:=[11,21]) (v:=?alq) rfl (by kernel_rfl) aA (bD ⟨by rfl,?abm⟩) ‹_› ?_
  case abm=>(intro w1 hSw;(try dsimp only at hSw);go_simp;try with_reducible rfl)
  simp only[ah,aj,ai,Act.put,au,ay,az]
  refine dK.RH (i:=12) (C:=[12,21]) (v:=?alr) rfl (by kernel_rfl) aA (bD ⟨by rfl,?abn⟩) ‹_› ?_
  case abn=>(intro w1 hSw;(try dsimp only at hSw);go_simp;try with_reducible rfl)
  simp only[ah,aj,ai,Act.put,au,ay,az]
  refine dK.RH (i:=13) (C:=[13,21]) (v:=?als) rfl (by kernel_rfl) aA (bD ⟨by rfl,?abo⟩) ‹_› ?_
  case abo=>(intro w1 hSw;(try dsimp only at hSw);go_simp;try with_reducible rfl)
  simp only[ah,aj,ai,Act.put,au,ay,az]
  refine dK.RH (i:=14) (C:=[14,21]) (v:=?alu) rfl (by kernel_rfl) aA (bD ⟨by rfl,?abp⟩) ‹_› ?_
  case abp=>(intro w1 hSw;(try dsimp only at hSw);go_simp;try with_reducible rfl)
  simp only[ah,aj,ai,Act.put,au,ay,az]
  refine dK.RH (i:=15) (C:=[15,21]) (v:=?alv) rfl (by kernel_rfl) aA (bD ⟨by rfl,?abq⟩) ‹_› ?_
  case abq=>(intro w1 hSw;(try dsimp only at hSw);go_simp;try with_reducible rfl)
  simp only[ah,aj,ai,Act.put,au,ay,az]
  refine dK.RH (i:=16) (C:=[16,21]) (v:=?alx) rfl (by kernel_rfl) aA (bD ⟨by rfl,?abr⟩) ‹_› ?_
  case abr=>(intro w1 hSw;(try dsimp only at hSw);go_simp;try with_reducible rfl)
  simp only[ah,aj,ai,Act.put,au,ay,az]
  refine dK.dM (rs:=[17]) (by kernel_rfl) (by simp) ?_
  refine (dK.dJ.cons rfl (fun K hK=>?_) dK.dJ.nil)
  refine vV _ rfl rfl ?_
  refine hK.o _ _ (oU.o _ (aP _ _ _ (by simp;omega)) (aP _ _ _ (by simp;omega)) (aP _ _ _ (by simp;omega))) (fun hHeld=>?_)
  clear hK K
  simp only[ah,aj,ai,Act.put,au,ay,az,World.size_alloc,World.size_drew]
  refine dK.dM (rs:=[18]) (by kernel_rfl) (by simp) ?_
  refine (dK.dJ.cons rfl (fun K hK=>?_) dK.dJ.nil)
  refine step_append_lies _ rfl _ _ 69 rfl base 71 i0 _ 5 64 Tryz.underlying69 hi hz0 hz1 hz2 rfl (by decide) (.slice A n c) n (ed qs) rfl (own_below hKq.o ((aG wq.heap.size wq).drew.trans ((aG wq.heap.size wq.drew).alloc (aF _) (.cells #[.int .i64 0,.string ⟨#[]⟩,.int .i64 0,.slice none 0 0,.int .i64 0] 71)))) ⟨wq.heap.size,0,none⟩ 1 1 [.int .i64 0,.string ⟨#[]⟩,.int .i64 0,.slice none 0 0,.int .i64 0] rfl rfl (bz (aH wq.drew (.cells #[.int .i64 0,.string ⟨#[]⟩,.int .i64 0,.slice none 0 0,.int .i64 0] 71))) ?a0 (by decide) ?a1 ?a2 ?a3 _ rfl ?_
  case a0=>(intro u hu;simp only[bZ,bI,or_false] at hu;rcases hu with rfl|rfl|rfl|rfl|rfl <;> rfl)
  case a1=>(unfold maxLen;omega)
  case a2=>omega
  case a3=>(simp;omega)
  intro g5 cap5 w5 hown5 fJ jP Au
  have hkeep:∀ b,b<wq.heap.size→(∀ ad,A=some ad→ad.block≠b)→w5.heap[b]?=wq.heap[b]?:=fun b hb hA=>(fJ.block b (by simp;omega) (fun e=>by cases A with|none=>simp[Value.ownBlock] at e|some ad=>exact hA ad rfl (by simpa [Value.ownBlock] using e.symm))).trans (aP wq.drew _ b hb)
  have hk1:=hkeep g (by omega) (fun ad e=>(VP ad e).1)
  have hk2:=hkeep gO (by omega) (fun ad e=>(VP ad e).2)
  have hk3:=hkeep w.heap.size (by omega) (fun ad e e2=>by have:=(hKl.o ad e);omega)
  have HS5:=ae (bU hk1 (bU hk2 hk3))
  have Nw:Hid (Aside (fun b=>∃ ad,A=some ad∧ad.block=b) w w5):=ae (((Aside.of_below uI.o).drew.alloc _).grown fJ (fun b e _=>by cases A with|none=>simp[Value.ownBlock] at e|some ad=>exact⟨ad,rfl,by simpa [Value.ownBlock] using e⟩))
  have sW:Hid ((∃ ad,A=some ad∧ad.block=g5)∨w.heap.size≤g5):=ae (jP.elim (fun e=>bD (by cases A with|none=>simp[Value.ownBlock] at e|some ad=>exact⟨ad,rfl,by simpa [Value.ownBlock] using e⟩)) (fun e=>Or.inr (by simp at e;omega)))
  have jq:=ae hown5
  have Ud:=ae Au
  have VQ:Hid (w5.heap[gO]?=some (.cells cur 71 (0,0))):=ae (hk2.trans (hOq.o.trans HO.o))
  have hne5:g5≠gO:=sW.o.elim (fun h=>h.elim fun ad e2=>by have:=(VP ad e2.1).2;omega) (fun h=>by omega)
  have hfz:w5.frozen? ⟨gO,m*5+3,none⟩=false:=(World.frozen?_of_block hk2).trans hfO.o
  have hcO:w5.cell? ⟨gO,m*5+3,none⟩=some (.slice A n c):=(aT hk2).trans aa8.o
  clear hown5 fJ jP Au hkeep
  refine hK.o _ _ (oU.o _ hk1 hk2 hk3) (fun hHeld=>?_)
  clear hK K hk1 hk2 hk3
  simp only[ah,aj,ai,Act.put,au,ay,az]
  refine dK.RH (i:=19) (C:=[19,20,21]) (v:=?aly) rfl (by kernel_rfl) aA (bD ⟨by rfl,?abt⟩) ‹_› ?_
  case abt=>(intro w1 hSw;(try dsimp only at hSw);go_simp;try with_reducible rfl)
  simp only[ah,aj,ai,Act.put,au,ay,az]
  refine dK.RH (i:=20) (C:=[20,21]) (v:=?alz) rfl (by kernel_rfl) aA (bD ⟨by rfl,?abu⟩) ‹_› ?_
  case abu=>(intro w1 hSw;(try dsimp only at hSw);go_simp;try with_reducible rfl)
  simp only[ah,aj,ai,Act.put,au,ay,az]
  refine dK.dM (rs:=[21]) (by kernel_rfl) (by simp) ?_
  refine dK.dJ.last rfl (fun K hK=>?_)
  simp only[ah,aj,ai]
  go_simp
  refine hK.o _ _ ?_
  clear hK K
  refine dK.gW (by kernel_rfl) ?_ _
  have xe:=ae (vU (x:=((.mk k x xn l a:T),A0,c0)) (o:=m*5+3) Nw.o sW.o jq.o VQ.o hne5 (Dj hKq.o))
  simp only[T.k,T.s,T.n,T.kids,T.at_] at xe
  rw[←HN0.o] at xe
  have hq:=Dj hKq.o
  have hown6:=wS jq.o (aI w5 ⟨gO,m*5+3,none⟩ (.slice (some ⟨g5,0,none⟩) (n+1) cap5) g5 hne5)
  have hzc:∀ i,i<5→(ed qs++[.int .i64 0,.string ⟨#[]⟩,.int .i64 0,.slice none 0 0,.int .i64 0])[n*5+i]?=([.int .i64 0,.string ⟨#[]⟩,.int .i64 0,.slice none 0 0,.int .i64 0]:List Value)[i]?:=fun i hi=>by
   rw[bK (by rw[jg,hq];omega),jg,hq,show n*5+i-n*5=i by omega]
  have Td:=fun j=>hown6.frozenAt j
  have d0:=(hown6.cellAt (n*5) (by omega)).trans (hzc 0 (by decide))
  have d1:=(hown6.cellAt (n*5+1) (by omega)).trans (hzc 1 (by decide))
  have d2:=(hown6.cellAt (n*5+2) (by omega)).trans (hzc 2 (by decide))
  have d3:=(hown6.cellAt (n*5+3) (by omega)).trans (hzc 3 (by decide))
  have d4:=(hown6.cellAt (n*5+4) (by omega)).trans (hzc 4 (by decide))
  obtain⟨w6,O8⟩:∃ w6,w6=w5.setCell ⟨gO,m*5+3,none⟩ (.slice (some ⟨g5,0,none⟩) (n+1) cap5):=⟨_,rfl⟩
  rw[←O8] at xe d0 d1 d2 d3 d4 Td ⊢
  have r0:=Td (n*5)
  have r1:=Td (n*5+1)
  have r2:=Td (n*5+2)
  have r3:=Td (n*5+3)
  have r4:=Td (n*5+4)
  simp only[List.getElem?_cons_zero,List.getElem?_cons_succ] at d0 d1 d2 d3 d4
  have en:IntKind.i64.wrap (n:Int)=(n:Int):=by unfold IntKind.wrap;simp[IntKind.bits,IntKind.signed];omega
  have rH:(n:Int)<(n:Int)+1:=by omega
  clear Nw sW jq Ud VQ hfz hcO oU HS5 O8 hown6 hzc Td hq
  go_wp2_with fail
  first
   | refine bodyPost_end (results_none rfl _ _ _) rfl ?_
   | refine aJ (results_none rfl _ _ _) rfl ?_
  exact⟨rfl,xe.o⟩
theorem EN {A:Option Addr} {n c b:Nat} (h:∀ ad:Addr,A=some ad→ad.block≠b)(e:some b=(Value.slice A n c).ownBlock):False:=by
 cases A with
 | none=>simp[Value.ownBlock] at e
 | some ad=>exact h ad rfl (by simpa [Value.ownBlock] using e.symm)
theorem pI {A:Option Addr} {n c b:Nat} (e:(Value.slice A n c).ownBlock=some b):∃ ad:Addr,A=some ad∧ad.block=b:=by
 cases A with
 | none=>simp[Value.ownBlock] at e
 | some ad=>exact⟨ad,rfl,by simpa [Value.ownBlock] using e⟩
theorem VR (g cB base:Nat)(B:Option Addr)(s:ByteArray)(k xn a:Int)(x:ByteArray)(l:List T)(A0:Option Addr)(n0 c0:Nat)(w:World)
 (hg:w.heap[g]?=some (.cells #[.string s,.slice B 0 cB,.slice none 0 0] 102 (0,0)))(hbase:base≤w.heap.size)(hn0:n0=l.length) :
 Calls Tryz.prog 54 #[.pointer (some ⟨g,0,none⟩),.agg #[.int .i64 k,.string x,.int .i64 xn,.slice A0 n0 c0,.int .i64 a]] w fun e w'=>e=.returned (.tuple #[])∧x8 102 w w' base g 2 #[.string s,.slice B 0 cB,.slice none 0 0] none 0 [] ((.mk k x xn l a:T),A0,c0):=by
 have g1:w.cell? ⟨g,1,none⟩=some (.slice B 0 cB):=by simp[World.cell?,hg]
 have hgl:g<w.heap.size:=(aU.1 hg).1
 obtain⟨w1,dZ⟩:∃ w1,w1=w.alloc (.cells #[.int .i64 k,.string x,.int .i64 xn,.slice A0 n0 c0,.int .i64 a] 71):=⟨_,rfl⟩
 have hb1:Below w.heap.size w w1:=by rw[dZ];exact (aG _ _).alloc (aF _) _
 have hs1:w1.heap.size=w.heap.size+1:=by rw[dZ];simp
 have hx1:w1.heap[w.heap.size]?=some (.cells #[.int .i64 k,.string x,.int .i64 xn,.slice A0 n0 c0,.int .i64 a] 71 (0,0)):=by rw[dZ];exact aH w _
 have hgq:w1.heap[g]?=some (.cells #[.string s,.slice B 0 cB,.slice none 0 0] 102 (0,0)):=(hb1.block g hgl).trans hg
 have hq2:w1.cell? ⟨g,2,none⟩=some (.slice none 0 0):=by simp[World.cell?,hgq]
 obtain⟨⟨x0,x1,x2,x3,x4⟩,_,_,_,_,_⟩:=dN hx1
 have oU:Hid (∀ w':World,w'.heap[g]?=w1.heap[g]?→w'.heap[w.heap.size]?=w1.heap[w.heap.size]?→w'.cell? ⟨g,2,none⟩=some (.slice none 0 0)∧w'.cell? ⟨w.heap.size,0,none⟩=some (.int .i64 k)∧w'.cell? ⟨w.heap.size,1,none⟩=some (.string x)∧w'.cell? ⟨w.heap.size,2,none⟩=some (.int .i64 xn)∧w'.cell? ⟨w.heap.size,3,none⟩=some (.slice A0 n0 c0)∧w'.cell? ⟨w.heap.size,4,none⟩=some (.int .i64 a)):=ae (fun w' h1 h3=>⟨(aT h1).trans hq2,(aT h3).trans x0,(aT h3).trans x1,(aT h3).trans x2,(aT h3).trans x3,(aT h3).trans x4⟩)
 have HW1:=ae dZ
 have uI:=ae hb1
 have HGQ:=ae hgq
 have HN0:=ae hn0
 have HKQ:Hid (w1.ownsRow base 71 5 (.slice none 0 0) 0 (ed [])):=ae ⟨rfl,.inl ⟨rfl,rfl⟩⟩
 have VP:∀ ad:Addr,(none:Option Addr)=some ad→ad.block≠g:=fun ad e=>by cases e
 obtain⟨i0,hi,hz0,hz1,hz2⟩:=info_parts pO
 clear hg dZ hx1 hb1 hn0 hgq hq2 x0 x1 x2 x3 x4
 go_enter Tryz.func54,Tryz.ntmps54
 go_upto_region 7 with (fail)
 rw[←HW1.o]
 refine dL.iP (fun w'=>w'.cell? ⟨g,2,none⟩=some (.slice none 0 0)∧w'.cell? ⟨w.heap.size,0,none⟩=some (.int .i64 k)∧w'.cell? ⟨w.heap.size,1,none⟩=some (.string x)∧w'.cell? ⟨w.heap.size,2,none⟩=some (.int .i64 xn)∧w'.cell? ⟨w.heap.size,3,none⟩=some (.slice A0 n0 c0)∧w'.cell? ⟨w.heap.size,4,none⟩=some (.int .i64 a)) [8,9,10,11,12] (by kernel_rfl) (oU.o _ rfl rfl) (fun hHeld=>?_)
 refine dL.RH (i:=0) (C:=[0,8,9,10,11,12]) (v:=?aoi) rfl (by kernel_rfl) aA (bD ⟨by rfl,?aeI⟩) ‹_› ?_
 case aeI=>(intro w1 hSw;(try dsimp only at hSw);go_simp;try with_reducible rfl)
 simp only[ah,ai,Act.put,au,ay,az]
 refine dL.RH (i:=1) (C:=[1,8,9,10,11,12]) (v:=?aoj) rfl (by kernel_rfl) aA (bD ⟨by rfl,?aeJ⟩) ‹_› ?_
 case aeJ=>(intro w1 hSw;(try dsimp only at hSw);go_simp;try with_reducible rfl)
 simp only[ah,aj,ai,Act.put,au,ay,az]
 refine dL.RH (i:=2) (C:=[2,8,9,10,11,12]) (v:=?aok) rfl (by kernel_rfl) aA (bD ⟨by rfl,?aeK⟩) ‹_› ?_
 case aeK=>(intro w1 hSw;(try dsimp only at hSw);go_simp;try with_reducible rfl)
 simp only[ah,aj,ai,Act.put,au,ay,az]
 refine dL.RH (i:=3) (C:=[3,8,9,10,11,12]) (v:=?aol) rfl (by kernel_rfl) aA (bD ⟨by rfl,?aeL⟩) ‹_› ?_
 case aeL=>(intro w1 hSw;(try dsimp only at hSw);go_simp;try with_reducible rfl)
 simp only[ah,aj,ai,Act.put,au,ay,az]
 refine dL.RH (i:=4) (C:=[4,8,9,10,11,12]) (v:=?aom) rfl (by kernel_rfl) aA (bD ⟨by rfl,?aeM⟩) ‹_› ?_
 case aeM=>(intro w1 hSw;(try dsimp only at hSw);go_simp;try with_reducible rfl)
 simp only[ah,aj,ai,Act.put,au,ay,az]
 refine dL.RH (i:=5) (C:=[5,8,9,10,11,12]) (v:=?aon) rfl (by kernel_rfl) aA (bD ⟨by rfl,?aeN⟩) ‹_› ?_
 case aeN=>(intro w1 hSw;(try dsimp only at hSw);go_simp;try with_reducible rfl)
 simp only[ah,aj,ai,Act.put,au,ay,az]
 refine dL.dM (rs:=[6]) (by kernel_rfl) (by simp) ?_
 refine (dL.dJ.cons rfl (fun K hK=>?_) dL.dJ.nil)
 refine vV _ rfl rfl ?_
 refine hK.o _ _ (oU.o _ (aP _ _ _ (by simp;omega)) (aP _ _ _ (by simp;omega))) (fun hHeld=>?_)
 clear hK K
 simp only[ah,aj,ai,Act.put,au,ay,az,World.size_alloc,World.size_drew]
 refine dL.dM (rs:=[7]) (by kernel_rfl) (by simp) ?_
 refine (dL.dJ.cons rfl (fun K hK=>?_) dL.dJ.nil)
 refine step_append_lies _ rfl _ _ 69 rfl base 71 i0 _ 5 64 Tryz.underlying69 hi hz0 hz1 hz2 rfl (by decide) (.slice none 0 0) 0 (ed []) rfl (own_below HKQ.o ((aG w1.heap.size w1).drew.trans ((aG w1.heap.size w1.drew).alloc (aF _) (.cells #[.int .i64 0,.string ⟨#[]⟩,.int .i64 0,.slice none 0 0,.int .i64 0] 71)))) ⟨w1.heap.size,0,none⟩ 1 1 [.int .i64 0,.string ⟨#[]⟩,.int .i64 0,.slice none 0 0,.int .i64 0] rfl rfl (bz (aH w1.drew (.cells #[.int .i64 0,.string ⟨#[]⟩,.int .i64 0,.slice none 0 0,.int .i64 0] 71))) ?a0 (by decide) ?a1 ?a2 ?a3 _ rfl ?_
 case a0=>(intro u hu;simp only[bZ,bI,or_false] at hu;rcases hu with rfl|rfl|rfl|rfl|rfl <;> rfl)
 case a1=>(unfold maxLen;omega)
 case a2=>omega
 case a3=>(simp;omega)
 intro g5 cap5 w5 hown5 fJ jP Au
 have hkeep:∀ b,b<w1.heap.size→(∀ ad:Addr,(none:Option Addr)=some ad→ad.block≠b)→w5.heap[b]?=w1.heap[b]?:=fun b hb hA=>(fJ.block b (by simp;omega) (fun e=>EN hA e)).trans (aP w1.drew _ b hb)
 have hk1:=hkeep g (by omega) (fun ad e=>by cases e)
 have hk2:=hkeep w.heap.size (by omega) (fun ad e=>by cases e)
 have Nw:Hid (Aside (fun b=>∃ ad:Addr,(none:Option Addr)=some ad∧ad.block=b) w w5):=ae (((Aside.of_below uI.o).drew.alloc _).grown fJ (fun b e _=>pI e))
 have sW:Hid ((∃ ad:Addr,(none:Option Addr)=some ad∧ad.block=g5)∨w.heap.size≤g5):=ae (jP.elim (fun e=>bD (pI e)) (fun e=>Or.inr (by simp at e;omega)))
 have hg5:Hid (w5.heap[g]?=some (.cells #[.string s,.slice B 0 cB,.slice none 0 0] 102 (0,0))):=ae (hk1.trans HGQ.o)
 have hne5:g5≠g:=sW.o.elim (fun h=>h.elim fun ad e2=>by have:=VP ad e2.1;omega) (fun h=>by omega)
 have jq:=ae hown5
 have hq:=Dj (n:=0) (qs:=[]) HKQ.o
 have hzc:∀ i,i<5→(ed []++[.int .i64 0,.string ⟨#[]⟩,.int .i64 0,.slice none 0 0,.int .i64 0])[0*5+i]?=([.int .i64 0,.string ⟨#[]⟩,.int .i64 0,.slice none 0 0,.int .i64 0]:List Value)[i]?:=fun i hi=>by rw[bK (by rw[jg,hq];omega),jg,hq,show 0*5+i-0*5=i by omega]
 have hrc:w5.cell? ⟨g,2,none⟩=some (.slice none 0 0):=by simp[World.cell?,hg5.o]
 have hrf:w5.frozen? ⟨g,2,none⟩=false:=by simp[World.frozen?,hg5.o]
 have d0:=(hown5.cellAt (0*5) (by omega)).trans (hzc 0 (by decide))
 have r0:=hown5.frozenAt (0*5)
 have d1:=(hown5.cellAt (0*5+1) (by omega)).trans (hzc 1 (by decide))
 have r1:=hown5.frozenAt (0*5+1)
 have d2:=(hown5.cellAt (0*5+2) (by omega)).trans (hzc 2 (by decide))
 have r2:=hown5.frozenAt (0*5+2)
 have d3:=(hown5.cellAt (0*5+3) (by omega)).trans (hzc 3 (by decide))
 have r3:=hown5.frozenAt (0*5+3)
 have d4:=(hown5.cellAt (0*5+4) (by omega)).trans (hzc 4 (by decide))
 have r4:=hown5.frozenAt (0*5+4)
 simp only[List.getElem?_cons_zero,List.getElem?_cons_succ] at d0 d1 d2 d3 d4
 have Yx:(w5.setCell ⟨g,2,none⟩ (.slice (some ⟨g5,0,none⟩) (0+1) cap5)).cell? ⟨g5,0*5,none⟩=_:=(aT (aI w5 ⟨g,2,none⟩ (.slice (some ⟨g5,0,none⟩) (0+1) cap5) g5 hne5)).trans d0
 have Yy:(w5.setCell ⟨g,2,none⟩ (.slice (some ⟨g5,0,none⟩) (0+1) cap5)).frozen? ⟨g5,0*5,none⟩=false:=(World.frozen?_of_block (aI w5 ⟨g,2,none⟩ (.slice (some ⟨g5,0,none⟩) (0+1) cap5) g5 hne5)).trans r0
 have dd1:(w5.setCell ⟨g,2,none⟩ (.slice (some ⟨g5,0,none⟩) (0+1) cap5)).cell? ⟨g5,0*5+1,none⟩=_:=(aT (aI w5 ⟨g,2,none⟩ (.slice (some ⟨g5,0,none⟩) (0+1) cap5) g5 hne5)).trans d1
 have Yz:(w5.setCell ⟨g,2,none⟩ (.slice (some ⟨g5,0,none⟩) (0+1) cap5)).frozen? ⟨g5,0*5+1,none⟩=false:=(World.frozen?_of_block (aI w5 ⟨g,2,none⟩ (.slice (some ⟨g5,0,none⟩) (0+1) cap5) g5 hne5)).trans r1
 have YA:(w5.setCell ⟨g,2,none⟩ (.slice (some ⟨g5,0,none⟩) (0+1) cap5)).cell? ⟨g5,0*5+2,none⟩=_:=(aT (aI w5 ⟨g,2,none⟩ (.slice (some ⟨g5,0,none⟩) (0+1) cap5) g5 hne5)).trans d2
 have YB:(w5.setCell ⟨g,2,none⟩ (.slice (some ⟨g5,0,none⟩) (0+1) cap5)).frozen? ⟨g5,0*5+2,none⟩=false:=(World.frozen?_of_block (aI w5 ⟨g,2,none⟩ (.slice (some ⟨g5,0,none⟩) (0+1) cap5) g5 hne5)).trans r2
 have YC:(w5.setCell ⟨g,2,none⟩ (.slice (some ⟨g5,0,none⟩) (0+1) cap5)).cell? ⟨g5,0*5+3,none⟩=_:=(aT (aI w5 ⟨g,2,none⟩ (.slice (some ⟨g5,0,none⟩) (0+1) cap5) g5 hne5)).trans d3
 have YD:(w5.setCell ⟨g,2,none⟩ (.slice (some ⟨g5,0,none⟩) (0+1) cap5)).frozen? ⟨g5,0*5+3,none⟩=false:=(World.frozen?_of_block (aI w5 ⟨g,2,none⟩ (.slice (some ⟨g5,0,none⟩) (0+1) cap5) g5 hne5)).trans r3
 have YE:(w5.setCell ⟨g,2,none⟩ (.slice (some ⟨g5,0,none⟩) (0+1) cap5)).cell? ⟨g5,0*5+4,none⟩=_:=(aT (aI w5 ⟨g,2,none⟩ (.slice (some ⟨g5,0,none⟩) (0+1) cap5) g5 hne5)).trans d4
 have YF:(w5.setCell ⟨g,2,none⟩ (.slice (some ⟨g5,0,none⟩) (0+1) cap5)).frozen? ⟨g5,0*5+4,none⟩=false:=(World.frozen?_of_block (aI w5 ⟨g,2,none⟩ (.slice (some ⟨g5,0,none⟩) (0+1) cap5) g5 hne5)).trans r4
 have hpg:(((((w5.setCell ⟨g5,0*5,none⟩ (.int .i64 k)).setCell ⟨g5,0*5+1,none⟩ (.string x)).setCell ⟨g5,0*5+2,none⟩ (.int .i64 xn)).setCell ⟨g5,0*5+3,none⟩ (.slice A0 n0 c0)).setCell ⟨g5,0*5+4,none⟩ (.int .i64 a)).heap[g]?=w5.heap[g]?:=(aI _ ⟨g5,0*5+4,none⟩ _ g (Ne.symm hne5)).trans ((aI _ ⟨g5,0*5+3,none⟩ _ g (Ne.symm hne5)).trans ((aI _ ⟨g5,0*5+2,none⟩ _ g (Ne.symm hne5)).trans ((aI _ ⟨g5,0*5+1,none⟩ _ g (Ne.symm hne5)).trans (aI _ ⟨g5,0*5,none⟩ _ g (Ne.symm hne5)))))
 have hpc:(((((w5.setCell ⟨g5,0*5,none⟩ (.int .i64 k)).setCell ⟨g5,0*5+1,none⟩ (.string x)).setCell ⟨g5,0*5+2,none⟩ (.int .i64 xn)).setCell ⟨g5,0*5+3,none⟩ (.slice A0 n0 c0)).setCell ⟨g5,0*5+4,none⟩ (.int .i64 a)).cell? ⟨g,2,none⟩=w5.cell? ⟨g,2,none⟩:=aT hpg
 rw[hrc] at hpc
 have VS:(((((w5.setCell ⟨g5,0*5,none⟩ (.int .i64 k)).setCell ⟨g5,0*5+1,none⟩ (.string x)).setCell ⟨g5,0*5+2,none⟩ (.int .i64 xn)).setCell ⟨g5,0*5+3,none⟩ (.slice A0 n0 c0)).setCell ⟨g5,0*5+4,none⟩ (.int .i64 a)).frozen? ⟨g,2,none⟩=w5.frozen? ⟨g,2,none⟩:=World.frozen?_of_block hpg
 rw[hrf] at VS
 have HD:=ae (bU d0 (bU d1 (bU d2 (bU d3 (bU d4 (bU r0 (bU r1 (bU r2 (bU r3 (bU r4 (bU hpc VS)))))))))))
 have rq:=ae (bU Yx (bU dd1 (bU YA (bU YC (bU YE (bU Yy (bU Yz (bU YB (bU YD (bU YF (bU hrc hrf)))))))))))
 have hF1:=ae (BR (x:=((.mk k x xn l a:T),A0,c0)) (o:=2) Nw.o sW.o jq.o hg5.o hne5 hq)
 have hF2:=ae (vU (x:=((.mk k x xn l a:T),A0,c0)) (o:=2) Nw.o sW.o jq.o hg5.o hne5 hq)
 simp only[T.k,T.s,T.n,T.kids,T.at_] at hF1 hF2
 rw[←HN0.o] at hF1 hF2
 clear hown5 fJ jP hkeep hzc hpg Nw sW jq d0 d1 d2 d3 d4 r0 r1 r2 r3 r4 Yx dd1 YA YC YE Yy Yz YB YD YF hpc VS hrc hrf
 refine hK.o _ _ (oU.o _ hk1 hk2) (fun hHeld=>?_)
 clear hK K hk1 hk2
 simp only[ah,aj,ai,Act.put,au,ay,az]
 refine dL.lJ (i:=8) (v:=?aoo) (by decide) rfl (by kernel_rfl) (by kernel_rfl) (by kernel_rfl) (fun _ _ _ h=>h) (bD ⟨by rfl,?aeO⟩) ?_
 case aeO=>(intro w1 hSw;go_simp;try with_reducible rfl)
 simp only[ah,aj,ai,Act.put,au,ay,az]
 refine dL.lJ (i:=10) (v:=?aop) (by decide) rfl (by kernel_rfl) (by kernel_rfl) (by kernel_rfl) (fun _ _ _ h=>h) (bD ⟨by rfl,?aeP⟩) ?_
 case aeP=>(intro w1 hSw;go_simp;try with_reducible rfl)
 simp only[ah,aj,ai,Act.put,au,ay,az]
 refine dL.lJ (i:=11) (v:=?aoq) (by decide) rfl (by kernel_rfl) (by kernel_rfl) (by kernel_rfl) (fun _ _ _ h=>h) (bD ⟨by rfl,?aeQ⟩) ?_
 case aeQ=>(intro w1 hSw;go_simp;try with_reducible rfl)
 simp only[ah,aj,ai,Act.put,au,ay,az]
 refine dL.dM (rs:=[9,12]) (by kernel_rfl) (by simp) ?_
 refine dL.dJ.late (by decide) rfl (fun K hK=>?_) (dL.dJ.late (by decide) rfl (fun K hK=>?_) dL.dJ.nil)
 ·
  obtain⟨d0,d1,d2,d3,d4,r0,r1,r2,r3,r4,hpc,VS⟩:=HD.o
  clear rq hF2 hHeld oU
  simp only[ah,aj,ai]
  go_simp
  refine hK.o _ _ ?_
  clear hK K
  refine dL.dM (rs:=[12]) (by kernel_rfl) (by simp) ?_
  refine dL.dJ.late (by decide) rfl (fun K hK=>?_) dL.dJ.nil
  simp only[ah,aj,ai]
  go_simp
  refine hK.o _ _ ?_
  clear hK K
  refine dL.gW (by kernel_rfl) ?_ _
  have xe:=hF1
  clear d0 d1 d2 d3 d4 r0 r1 r2 r3 r4 hpc VS
  go_wp2_with fail
  first
   | refine bodyPost_end (results_none rfl _ _ _) rfl ?_
   | refine aJ (results_none rfl _ _ _) rfl ?_
  exact⟨rfl,xe.o⟩
 ·
  obtain⟨Yx,dd1,YA,YC,YE,Yy,Yz,YB,YD,YF,hrc,hrf⟩:=rq.o
  clear HD hF1 hHeld oU
  simp only[ah,aj,ai]
  go_simp
  refine hK.o _ _ ?_
  clear hK K
  refine dL.dM (rs:=[9]) (by kernel_rfl) (by simp) ?_
  refine dL.dJ.late (by decide) rfl (fun K hK=>?_) dL.dJ.nil
  simp only[ah,aj,ai]
  go_simp
  refine hK.o _ _ ?_
  clear hK K
  refine dL.gW (by kernel_rfl) ?_ _
  have xe:=hF2
  clear Yx dd1 YA YC YE Yy Yz YB YD YF hrc hrf
  go_wp2_with fail
  first
   | refine bodyPost_end (results_none rfl _ _ _) rfl ?_
   | refine aJ (results_none rfl _ _ _) rfl ?_
  exact⟨rfl,xe.o⟩
theorem Me {α:Type} {p:α→Bool} {l:List α} {k:Nat} {x:α} (hx:l[k]?=some x):(l.drop k).all p=(p x&&(l.drop (k+1)).all p):=by
 obtain⟨h1,e1⟩:=aV.1 hx
 rw[bY h1,e1,List.all_cons]
theorem V4 (t:T)(A:Option Addr)(c:Nat)(w:World)(hc:t.kids.length≤c)(hA:fA w w.heap.size A t.kids) :
 Calls Tryz.prog 81 #[t.val A c] w fun e w'=>e=.returned (.bool (jK t != 0))∧Below w.heap.size w w':=by
 obtain⟨k,s,n,l,a⟩:=t
 change l.length≤c at hc
 change fA w w.heap.size A l at hA
 have hb0:=ae (dV w #[.int .i64 k,.string s,.int .i64 n,.slice A l.length c,.int .i64 a] 86)
 have hx0:=ae (sF w k s n A l.length c a)
 have hwd:=ae (Lj (.mk k s n l a) A c (w.alloc (.cells #[.int .i64 k,.string s,.int .i64 n,.slice A l.length c,.int .i64 a] 86)) ((hA.low hb0.o).more hb0.o.size))
 rw[show jK (.mk k s n l a)=gJ (lh (.mk k s n l a)).toList l from rfl]
 generalize lh (.mk k s n l a)=wd at *
 simp only[T.val,T.k,T.s,T.n,T.kids,T.at_] at hwd ⊢
 have hlen:=hA.len
 have HA:=ae hA
 clear hA
 rcases DI wd.toList with h|h
 ·simp only[lW,bZ,bI,or_false] at h
  rcases h with h|h|h|h|h|h|h
  ·obtain⟨r,hr⟩:∃ r,r=gJ wd.toList l:=⟨_,rfl⟩
   rw[←hr]
   rw[h,DK] at hr
   simp only[mi] at h
   have HR:=ae hr.symm
   clear hr
   by_cases h2:l.length=2
   ·obtain⟨x,hx⟩:∃ x,l[1]?=some x:=⟨_,aO (by omega)⟩
    rw[h2,getD_some hx] at HR
    generalize l.length=m at *
    subst h2
    go_enter Tryz.func81,Tryz.ntmps81
    go_wp2_with fail
    refine (hwd.o).mono ?_
    rintro e w2 ⟨rfl,hb⟩
    have iI:=ae ((hb.block w.heap.size (by simp)).trans hx0.o)
    have HB2:=ae (hb0.o.trans (hb.mono hb0.o.size))
    obtain⟨⟨k0,k1,k2,k3,k4⟩,_,_,_,_,_⟩:=dN iI.o
    clear hb hwd hb0 hx0
    obtain⟨b,o,A',c',rfl,hb,c1,c2,c3,c4,c5,hc',hK⟩:=HA.o.gy _ HB2.o 1 x hx
    rw[Nat.one_mul] at c1
    clear c2 c3 c4 c5 hc' hK hx HA
    generalize x.k=xk at *
    by_cases hx2:xk=2
    ·subst hx2
     go_wp2_with fail
     go_ret
     exact⟨by show Ending.returned (Value.bool true)=_;(rw[←HR.o,if_pos ⟨trivial,trivial⟩];first|rfl|done),HB2.o⟩
    ·have Uo:(xk==2)=false:=by simpa using hx2
     go_wp2_with fail
     go_ret
     exact⟨by show Ending.returned (Value.bool false)=_;(rw[←HR.o,if_neg (fun h=>hx2 h.2)];first|rfl|done),HB2.o⟩
   ·generalize l.length=m at *
    clear HA
    have h2':((m:Int)==2)=false:=by rw[beq_eq_false_iff_ne];omega
    go_enter Tryz.func81,Tryz.ntmps81
    go_wp2_with fail
    refine (hwd.o).mono ?_
    rintro e w2 ⟨rfl,hb⟩
    have iI:=ae ((hb.block w.heap.size (by simp)).trans hx0.o)
    have HB2:=ae (hb0.o.trans (hb.mono hb0.o.size))
    obtain⟨⟨k0,k1,k2,k3,k4⟩,_,_,_,_,_⟩:=dN iI.o
    clear hb hwd hb0 hx0
    go_wp2_with fail
    go_ret
    exact⟨by show Ending.returned (Value.bool false)=_;(rw[←HR.o,if_neg (fun h=>h2 h.1)];first|rfl|done),HB2.o⟩
  ·rw[h,BG]
   simp only[kT] at h
   generalize l.length=m at *
   clear HA
   by_cases h2:m=3
   ·subst h2
    rw[if_pos rfl]
    go_enter Tryz.func81,Tryz.ntmps81
    go_wp2_with fail
    refine (hwd.o).mono ?_
    rintro e w2 ⟨rfl,hb⟩
    have iI:=ae ((hb.block w.heap.size (by simp)).trans hx0.o)
    have HB2:=ae (hb0.o.trans (hb.mono hb0.o.size))
    obtain⟨⟨k0,k1,k2,k3,k4⟩,_,_,_,_,_⟩:=dN iI.o
    clear hb hwd hb0 hx0
    go_wp2_with fail
    go_ret
    exact⟨rfl,HB2.o⟩
   ·rw[if_neg h2]
    have h2':((m:Int)==3)=false:=by rw[beq_eq_false_iff_ne];omega
    go_enter Tryz.func81,Tryz.ntmps81
    go_wp2_with fail
    refine (hwd.o).mono ?_
    rintro e w2 ⟨rfl,hb⟩
    have iI:=ae ((hb.block w.heap.size (by simp)).trans hx0.o)
    have HB2:=ae (hb0.o.trans (hb.mono hb0.o.size))
    obtain⟨⟨k0,k1,k2,k3,k4⟩,_,_,_,_,_⟩:=dN iI.o
    clear hb hwd hb0 hx0
    go_wp2_with fail
    go_ret
    exact⟨rfl,HB2.o⟩
  ·obtain⟨r,hr⟩:∃ r,r=gJ wd.toList l:=⟨_,rfl⟩
   rw[←hr]
   rw[h,yL] at hr
   simp only[jR] at h
   have HR:=ae hr.symm
   clear hr
   by_cases h2:3≤l.length
   ·obtain⟨d,hd⟩:∃ d,l.length=d+1:=⟨l.length-1,by omega⟩
    have hd2:2≤d:=by omega
    have hmid:Hid (∀ q,q+1<d→(fV l 1)[q]?=l[q+1]?):=ae (fun q hq=>by unfold fV;rw[List.getElem?_take,if_pos (by omega),List.getElem?_drop,Nat.add_comm])
    have hml:Hid ((fV l 1).length=d-1):=ae (by unfold fV;rw[List.length_take,List.length_drop];omega)
    have U3:=ae hd
    rw[hd] at hc hlen hwd hb0 hx0 ⊢
    have HR2:Hid ((fV l 1).all fE=true→r=3):=ae (fun h=>by rw[←HR.o,if_pos ⟨h2,h⟩])
    have HR3:Hid ((fV l 1).all fE=false→r=0):=ae (fun h=>by rw[←HR.o,if_neg (fun g=>by rw[h] at g;simp at g)])
    have hw1:wrap64 (d:Int)=(d:Int):=IntWalk.wrap64_in _ (by omega)
    have hd3:¬d+1<3:=by omega
    have hd4:¬(d:Int)+1<3:=by omega
    clear HR h2 hd
    go_enter Tryz.func81,Tryz.ntmps81
    go_wp2_with fail
    refine (hwd.o).mono ?_
    rintro e w2 ⟨rfl,hb⟩
    have iI:=ae ((hb.block w.heap.size (by simp)).trans hx0.o)
    have HB2:=ae (hb0.o.trans (hb.mono hb0.o.size))
    obtain⟨⟨k0,k1,k2,k3,k4⟩,_,_,_,_,_⟩:=dN iI.o
    clear hb hwd hb0 hx0
    go_upto_region 15 with (fail)
    go_loopw [5] (fun i wr=>∃ j:Nat,j+1≤d∧i=.int .i64 ((j+1:Nat):Int)∧wr=w2∧Hid ((fV l 1).all fE=((fV l 1).drop j).all fE)) (fun i _=>d-(intOf i).toNat)
    case atStart=>exact⟨0,by omega,rfl,by first|rfl|trivial,ae (by rw[List.drop_zero])⟩
    case round =>
     obtain⟨j,hj,rfl,rfl,hz⟩:=hrel
     by_cases hlt:j+1<d
     ·obtain⟨x,hx⟩:∃ x,l[j+1]?=some x:=⟨_,aO (by rw[U3.o];omega)⟩
      have hst:=ae (hz.o.trans (Me (p:=fE) ((hmid.o j hlt).trans hx)))
      obtain⟨b,o,A1,d1,rfl,QY,c1,c2,c3,c4,c5,hd1,hK1⟩:=HA.o.gy _ HB2.o (j+1) x hx
      have hcx:fE x=(x.k==1&&(x.kids.length==2&&DJ x.kids==2)):=rfl
      rw[hcx] at hst
      clear hx hz hcx
      have hK1':=ae hK1
      obtain⟨xk,xs,xn,xl,xa⟩:=x
      simp only[T.val,T.k,T.s,T.n,T.kids,T.at_] at c1 c2 c3 c4 c5 hst hK1' hd1
      clear hK1 c2 c3 c5
      by_cases e1:xk=1
      ·subst e1
       by_cases e2:xl.length=2
       ·obtain⟨y,hy⟩:∃ y,xl[0]?=some y:=⟨_,aO (by omega)⟩
        obtain⟨b2,o2,A2,d2,rfl,hb8,g1,g2,g3,g4,g5,YK,hK2⟩:=hK1'.o.gy _ (aG _ _) 0 y hy
        rw[Nat.zero_mul,Nat.add_zero] at g1
        have hst2:Hid ((fV l 1).all fE=((y.k==2)&&((fV l 1).drop (j+1)).all fE)):=ae (by rw[hst.o,e2,GM hy];rfl)
        clear hst g2 g3 g4 g5 YK hK2 hy
        generalize xl.length=xm at *
        subst e2
        generalize y.k=yk at *
        by_cases e3:yk=2
        ·subst e3
         have hst3:Hid ((fV l 1).all fE=((fV l 1).drop (j+1)).all fE):=ae (hst2.o.trans (Bool.true_and _))
         clear hst2
         go_wp2_with fail
         go_roundw
         case rel=>exact⟨j+1,by omega,by go_num,by first|rfl|trivial,hst3⟩
         case measure=>simp[intOf];omega
        ·have e3':(yk==2)=false:=by simpa using e3
         have aip:(yk != 2)=true:=by simpa using e3
         have h0:=ae (HR3.o (by rw[hst2.o,e3'];rfl))
         clear hst2 e3
         go_wp2_with fail
         go_ret
         exact⟨by rw[h0.o];rfl,HB2.o⟩
       ·have h0:=ae (HR3.o (by rw[hst.o,show (xl.length==2)=false by simpa using e2];rfl))
        clear hst hK1'
        generalize xl.length=xm at *
        have e2':((xm:Int) != 2)=true:=by simp;omega
        clear e2
        go_wp2_with fail
        go_ret
        exact⟨by rw[h0.o];rfl,HB2.o⟩
      ·have e1':(xk==1)=false:=by simpa using e1
       have aoE:(xk != 1)=true:=by simpa using e1
       have h0:=ae (HR3.o (by rw[hst.o,e1'];rfl))
       clear hst hK1' e1
       generalize xl.length=xm at *
       go_wp2_with fail
       go_ret
       exact⟨by rw[h0.o];rfl,HB2.o⟩
     ·obtain rfl:j+1=d:=by omega
      have h0:=ae (HR2.o (by rw[hz.o,bW (by rw[hml.o];omega)];rfl))
      clear hz
      go_wp2_with fail
      go_ret
      exact⟨by rw[h0.o];rfl,HB2.o⟩
   ·generalize l.length=m at *
    clear HA
    go_enter Tryz.func81,Tryz.ntmps81
    go_wp2_with fail
    refine (hwd.o).mono ?_
    rintro e w2 ⟨rfl,hb⟩
    have iI:=ae ((hb.block w.heap.size (by simp)).trans hx0.o)
    have HB2:=ae (hb0.o.trans (hb.mono hb0.o.size))
    obtain⟨⟨k0,k1,k2,k3,k4⟩,_,_,_,_,_⟩:=dN iI.o
    clear hb hwd hb0 hx0
    go_wp2_with fail
    go_ret
    exact⟨by show Ending.returned (Value.bool false)=_;(rw[←HR.o,if_neg (fun h=>h2 h.1)];first|rfl|done),HB2.o⟩
  ·obtain⟨r,hr⟩:∃ r,r=gJ wd.toList l:=⟨_,rfl⟩
   rw[←hr]
   rw[h,GN] at hr
   simp only[oV] at h
   have HR:=ae hr.symm
   clear hr
   by_cases h2:l.length=5
   ·obtain⟨x,hx⟩:∃ x,l[1]?=some x:=⟨_,aO (by omega)⟩
    obtain⟨y,hy⟩:∃ y,l[2]?=some y:=⟨_,aO (by omega)⟩
    rw[h2,getD_some hx,getD_some hy,xW,xW] at HR
    have HR2:Hid ((x.k==1&&allA x.kids)=true→(y.k==1&&allA y.kids)=true→r=4):=ae (fun g h=>by rw[←HR.o,if_pos ⟨rfl,g,h⟩])
    have HRa:Hid ((x.k==1&&allA x.kids)=false→r=0):=ae (fun h=>by rw[←HR.o,if_neg (fun g=>by rw[h] at g;simp at g)])
    have HRb:Hid ((y.k==1&&allA y.kids)=false→r=0):=ae (fun h=>by rw[←HR.o,if_neg (fun g=>by rw[h] at g;simp at g)])
    clear HR
    generalize l.length=m at *
    subst h2
    go_enter Tryz.func81,Tryz.ntmps81
    go_wp2_with fail
    refine (hwd.o).mono ?_
    rintro e w2 ⟨rfl,hb⟩
    have iI:=ae ((hb.block w.heap.size (by simp)).trans hx0.o)
    have HB2:=ae (hb0.o.trans (hb.mono hb0.o.size))
    obtain⟨⟨k0,k1,k2,k3,k4⟩,_,_,_,_,_⟩:=dN iI.o
    clear hb hwd hb0 hx0
    obtain⟨b,o,A1,d1,rfl,QY,c1,c2,c3,c4,c5,hd1,hK1⟩:=HA.o.gy _ HB2.o 1 x hx
    rw[Nat.one_mul] at c1 c2 c3 c4 c5
    obtain⟨b',o',A2,d2,e9,hb8,e1,e2,e3,e4,e5,hd2,hK2⟩:=HA.o.gy _ HB2.o 2 y hy
    obtain⟨rfl,rfl⟩:b'=b∧o'=o:=by injection e9 with e9;injection e9 with e9 e10;exact⟨e9.symm,e10.symm⟩
    have ha1:=ae (tY A1 d1 x.kids w2 hK1)
    have ha2:=ae (tY A2 d2 y.kids w2 hK2)
    generalize allA x.kids=q1 at *
    generalize allA y.kids=q2 at *
    obtain⟨xk,xs,xn,xl,xa⟩:=x
    obtain⟨yk,ys,yn,yl,ya⟩:=y
    simp only[T.val,T.k,T.s,T.n,T.kids,T.at_] at c1 c2 c3 c4 c5 e1 e2 e3 e4 e5 ha1 ha2 HR2 HRa HRb
    clear hK1 hd1 hx hK2 hd2 hy HA c2 c3 c5 e2 e3 e5
    generalize xl.length=xm at *
    generalize yl.length=ym at *
    by_cases f1:xk=1
    ·subst f1
     by_cases f2:yk=1
     ·subst f2
      cases q1
      ·skip
       go_wp2_with fail
       refine (ha1.o).mono ?_
       rintro e w' ⟨rfl,rfl⟩
       have h0:=ae (HRa.o rfl)
       go_wp2_with fail
       go_ret
       exact⟨by rw[h0.o];rfl,HB2.o⟩
      ·cases q2
       ·skip
        go_wp2_with fail
        refine (ha1.o).mono ?_
        rintro e w' ⟨rfl,rfl⟩
        go_wp2_with fail
        refine (ha2.o).mono ?_
        rintro e w' ⟨rfl,rfl⟩
        have h0:=ae (HRb.o rfl)
        go_wp2_with fail
        go_ret
        exact⟨by rw[h0.o];rfl,HB2.o⟩
       ·skip
        go_wp2_with fail
        refine (ha1.o).mono ?_
        rintro e w' ⟨rfl,rfl⟩
        go_wp2_with fail
        refine (ha2.o).mono ?_
        rintro e w' ⟨rfl,rfl⟩
        have h0:=ae (HR2.o rfl rfl)
        go_wp2_with fail
        go_ret
        exact⟨by rw[h0.o];rfl,HB2.o⟩
     ·have f2':(yk==1)=false:=by simpa using f2
      have h1:=ae (HRb.o (by rw[f2'];rfl))
      clear f2
      go_wp2_with fail
      go_ret
      exact⟨by rw[h1.o];rfl,HB2.o⟩
    ·have f1':(xk==1)=false:=by simpa using f1
     have h1:=ae (HRa.o (by rw[f1'];rfl))
     clear f1
     go_wp2_with fail
     go_ret
     exact⟨by rw[h1.o];rfl,HB2.o⟩
   ·generalize l.length=m at *
    clear HA
    have h2':((m:Int)==5)=false:=by rw[beq_eq_false_iff_ne];omega
    go_enter Tryz.func81,Tryz.ntmps81
    go_wp2_with fail
    refine (hwd.o).mono ?_
    rintro e w2 ⟨rfl,hb⟩
    have iI:=ae ((hb.block w.heap.size (by simp)).trans hx0.o)
    have HB2:=ae (hb0.o.trans (hb.mono hb0.o.size))
    obtain⟨⟨k0,k1,k2,k3,k4⟩,_,_,_,_,_⟩:=dN iI.o
    clear hb hwd hb0 hx0
    go_wp2_with fail
    go_ret
    exact⟨by show Ending.returned (Value.bool false)=_;(rw[←HR.o,if_neg (fun h=>h2 h.1)];first|rfl|done),HB2.o⟩
  ·rw[h,DL]
   simp only[nG] at h
   generalize l.length=m at *
   clear HA
   by_cases h2:m=3
   ·subst h2
    rw[if_pos rfl]
    go_enter Tryz.func81,Tryz.ntmps81
    go_wp2_with fail
    refine (hwd.o).mono ?_
    rintro e w2 ⟨rfl,hb⟩
    have iI:=ae ((hb.block w.heap.size (by simp)).trans hx0.o)
    have HB2:=ae (hb0.o.trans (hb.mono hb0.o.size))
    obtain⟨⟨k0,k1,k2,k3,k4⟩,_,_,_,_,_⟩:=dN iI.o
    clear hb hwd hb0 hx0
    go_wp2_with fail
    go_ret
    exact⟨rfl,HB2.o⟩
   ·rw[if_neg h2]
    have h2':((m:Int)==3)=false:=by rw[beq_eq_false_iff_ne];omega
    go_enter Tryz.func81,Tryz.ntmps81
    go_wp2_with fail
    refine (hwd.o).mono ?_
    rintro e w2 ⟨rfl,hb⟩
    have iI:=ae ((hb.block w.heap.size (by simp)).trans hx0.o)
    have HB2:=ae (hb0.o.trans (hb.mono hb0.o.size))
    obtain⟨⟨k0,k1,k2,k3,k4⟩,_,_,_,_,_⟩:=dN iI.o
    clear hb hwd hb0 hx0
    go_wp2_with fail
    go_ret
    exact⟨rfl,HB2.o⟩
  ·rw[h,xh]
   simp only[jh] at h
   generalize l.length=m at *
   clear HA
   by_cases h2:m=2
   ·subst h2
    rw[if_pos rfl]
    go_enter Tryz.func81,Tryz.ntmps81
    go_wp2_with fail
    refine (hwd.o).mono ?_
    rintro e w2 ⟨rfl,hb⟩
    have iI:=ae ((hb.block w.heap.size (by simp)).trans hx0.o)
    have HB2:=ae (hb0.o.trans (hb.mono hb0.o.size))
    obtain⟨⟨k0,k1,k2,k3,k4⟩,_,_,_,_,_⟩:=dN iI.o
    clear hb hwd hb0 hx0
    go_wp2_with fail
    go_ret
    exact⟨rfl,HB2.o⟩
   ·rw[if_neg h2]
    have h2':((m:Int)==2)=false:=by rw[beq_eq_false_iff_ne];omega
    go_enter Tryz.func81,Tryz.ntmps81
    go_wp2_with fail
    refine (hwd.o).mono ?_
    rintro e w2 ⟨rfl,hb⟩
    have iI:=ae ((hb.block w.heap.size (by simp)).trans hx0.o)
    have HB2:=ae (hb0.o.trans (hb.mono hb0.o.size))
    obtain⟨⟨k0,k1,k2,k3,k4⟩,_,_,_,_,_⟩:=dN iI.o
    clear hb hwd hb0 hx0
    go_wp2_with fail
    go_ret
    exact⟨rfl,HB2.o⟩
  ·obtain⟨r,hr⟩:∃ r,r=gJ wd.toList l:=⟨_,rfl⟩
   rw[←hr]
   rw[h,DN] at hr
   simp only[kZ] at h
   have HR:=ae hr.symm
   clear hr
   by_cases h2:3≤l.length
   ·obtain⟨x,hx⟩:∃ x,l[1]?=some x:=⟨_,aO (by omega)⟩
    rw[getD_some hx,xW] at HR
    obtain⟨d,hd⟩:∃ d,l.length=d+1:=⟨l.length-1,by omega⟩
    have hd2:2≤d:=by omega
    have hmid:Hid (∀ q,q+2<d→(fV l 2)[q]?=l[q+2]?):=ae (fun q hq=>by unfold fV;rw[List.getElem?_take,if_pos (by omega),List.getElem?_drop,Nat.add_comm])
    have hml:Hid ((fV l 2).length=d-2):=ae (by unfold fV;rw[List.length_take,List.length_drop];omega)
    have U3:=ae hd
    rw[hd] at hc hlen hwd hb0 hx0 ⊢
    have HR2:Hid ((x.k==1&&allA x.kids)=true→(fV l 2).all kG=true→r=7):=ae (fun g h=>by rw[←HR.o,if_pos ⟨h2,g,h⟩])
    have HR3:Hid ((fV l 2).all kG=false→r=0):=ae (fun h=>by rw[←HR.o,if_neg (fun g=>by rw[h] at g;simp at g)])
    have HR4:Hid ((x.k==1&&allA x.kids)=false→r=0):=ae (fun h=>by rw[←HR.o,if_neg (fun g=>by rw[h] at g;simp at g)])
    have hw1:wrap64 (d:Int)=(d:Int):=IntWalk.wrap64_in _ (by omega)
    have hd3:¬d+1<3:=by omega
    have hd4:¬(d:Int)+1<3:=by omega
    clear HR h2 hd
    go_enter Tryz.func81,Tryz.ntmps81
    go_wp2_with fail
    refine (hwd.o).mono ?_
    rintro e w2 ⟨rfl,hb⟩
    have iI:=ae ((hb.block w.heap.size (by simp)).trans hx0.o)
    have HB2:=ae (hb0.o.trans (hb.mono hb0.o.size))
    obtain⟨⟨k0,k1,k2,k3,k4⟩,_,_,_,_,_⟩:=dN iI.o
    clear hb hwd hb0 hx0
    obtain⟨b,o,A1,d1,rfl,QY,c1,c2,c3,c4,c5,hd1,hK1⟩:=HA.o.gy _ HB2.o 1 x hx
    rw[Nat.one_mul] at c1 c2 c3 c4 c5
    have ha1:=ae (tY A1 d1 x.kids w2 hK1)
    generalize allA x.kids=q1 at *
    obtain⟨xk,xs,xn,xl,xa⟩:=x
    simp only[T.val,T.k,T.s,T.n,T.kids,T.at_] at c1 c2 c3 c4 c5 ha1 HR2 HR4
    clear hK1 hd1 hx c2 c3 c5
    generalize xl.length=xm at *
    by_cases f1:xk=1
    ·subst f1
     cases q1
     ·have h0:=ae (HR4.o rfl)
      go_wp2_with fail
      refine (ha1.o).mono ?_
      rintro e w' ⟨rfl,rfl⟩
      go_wp2_with fail
      go_ret
      exact⟨by rw[h0.o];rfl,HB2.o⟩
     ·have wU:=ae (HR2.o rfl)
      go_wp2_with fail
      refine (ha1.o).mono ?_
      rintro e w' ⟨rfl,rfl⟩
      go_upto_region 26 with (fail)
      clear HR2 HR4 ha1
      rename_i w2
      go_loopw [6] (fun i wr=>∃ j:Nat,j+2≤d∧i=.int .i64 ((j+2:Nat):Int)∧Below w.heap.size w wr∧Hid ((fV l 2).all kG=((fV l 2).drop j).all kG)) (fun i _=>d-(intOf i).toNat)
      case atStart=>exact⟨0,by omega,rfl,HB2.o,ae (by rw[List.drop_zero])⟩
      case round =>
       obtain⟨j,hj,rfl,hbr,hz⟩:=hrel
       have TY:=ae hbr
       clear hbr
       by_cases hlt:j+2<d
       ·obtain⟨y,hy⟩:∃ y,l[j+2]?=some y:=⟨_,aO (by rw[U3.o];omega)⟩
        have hst:=ae (hz.o.trans (Me (p:=kG) ((hmid.o j hlt).trans hy)))
        obtain⟨b',o',A2,d2,e9,hb8,e1,e2,e3,e4,e5,YK,hK2⟩:=HA.o.gy _ TY.o (j+2) y hy
        obtain⟨rfl,rfl⟩:b'=b∧o'=o:=by injection e9 with e9;injection e9 with e9 e10;exact⟨e9.symm,e10.symm⟩
        have hcx:kG y=((y.k==1&&allA y.kids)&&(y.kids.length==2 || y.kids.length==3)):=rfl
        rw[hcx] at hst
        have ha2:=ae (fun u=>tY A2 d2 y.kids (wr.alloc u) ((hK2.low ((aG _ _).alloc (aF _) u)).more (by simp)))
        have hxb:=ae (TY.o.alloc TY.o.size)
        clear hy hz hcx hK2
        generalize allA y.kids=q2 at *
        obtain⟨yk,ys,yn,yl,ya⟩:=y
        simp only[T.val,T.k,T.s,T.n,T.kids,T.at_] at e1 e2 e3 e4 e5 hst ha2 YK
        obtain⟨ym,hym⟩:∃ ym,yl.length=ym:=⟨_,rfl⟩
        rw[hym] at e4 ha2 hst YK
        clear hym
        have hlt2:(j:Int)+2<(d:Int):=by omega
        by_cases g1:yk=1
        ·subst g1
         cases q2
         ·have h0:=ae (HR3.o (by rw[hst.o];rfl))
          clear hst
          go_wp2_with fail
          refine (ha2.o _).mono ?_
          rintro e w' ⟨rfl,rfl⟩
          go_wp2_with fail
          go_ret
          exact⟨by rw[h0.o];rfl,hxb.o _⟩
         ·by_cases g2:ym=2
          ·subst g2
           have hst3:Hid ((fV l 2).all kG=((fV l 2).drop (j+1)).all kG):=ae (hst.o.trans (Bool.true_and _))
           clear hst
           go_wp2_with fail
           refine (ha2.o _).mono ?_
           rintro e w' ⟨rfl,rfl⟩
           go_wp2_with fail
           go_roundw
           case rel=>exact⟨j+1,by omega,by go_num,hxb.o _,hst3⟩
           case measure=>simp[intOf];omega
          ·by_cases g3:ym=3
           ·subst g3
            have hst3:Hid ((fV l 2).all kG=((fV l 2).drop (j+1)).all kG):=ae (hst.o.trans (Bool.true_and _))
            clear hst
            go_wp2_with fail
            refine (ha2.o _).mono ?_
            rintro e w' ⟨rfl,rfl⟩
            go_wp2_with fail
            go_roundw
            case rel=>exact⟨j+1,by omega,by go_num,hxb.o _,hst3⟩
            case measure=>simp[intOf];omega
           ·have h0:=ae (HR3.o (by rw[hst.o,show (ym==2)=false by simpa using g2,show (ym==3)=false by simpa using g3];rfl))
            have g2':((ym:Int) != 2)=true:=by simp;omega
            have g3':((ym:Int) != 3)=true:=by simp;omega
            clear hst g2 g3
            go_wp2_with fail
            refine (ha2.o _).mono ?_
            rintro e w' ⟨rfl,rfl⟩
            go_wp2_with fail
            go_ret
            exact⟨by rw[h0.o];rfl,hxb.o _⟩
        ·have g1':(yk==1)=false:=by simpa using g1
         have g1'':(yk != 1)=true:=by simpa using g1
         have h0:=ae (HR3.o (by rw[hst.o,g1'];rfl))
         clear hst g1
         go_wp2_with fail
         go_ret
         exact⟨by rw[h0.o];rfl,hxb.o _⟩
       ·obtain rfl:j+2=d:=by omega
        have h0:=ae (wU.o (by rw[hz.o,bW (by rw[hml.o];omega)];rfl))
        clear hz
        go_wp2_with fail
        go_ret
        exact⟨by rw[h0.o];rfl,TY.o⟩
    ·have f1':(xk==1)=false:=by simpa using f1
     have aoF:(xk != 1)=true:=by simpa using f1
     have h0:=ae (HR4.o (by rw[f1'];rfl))
     clear f1
     go_wp2_with fail
     go_ret
     exact⟨by rw[h0.o];rfl,HB2.o⟩
   ·generalize l.length=m at *
    clear HA
    go_enter Tryz.func81,Tryz.ntmps81
    go_wp2_with fail
    refine (hwd.o).mono ?_
    rintro e w2 ⟨rfl,hb⟩
    have iI:=ae ((hb.block w.heap.size (by simp)).trans hx0.o)
    have HB2:=ae (hb0.o.trans (hb.mono hb0.o.size))
    obtain⟨⟨k0,k1,k2,k3,k4⟩,_,_,_,_,_⟩:=dN iI.o
    clear hb hwd hb0 hx0
    go_wp2_with fail
    go_ret
    exact⟨by show Ending.returned (Value.bool false)=_;(rw[←HR.o,if_neg (fun h=>h2 h.1)];first|rfl|done),HB2.o⟩
 ·rw[kind_none h]
  simp only[lW,mi,kT,jR,oV,nG,jh,kZ,bZ,bI,or_false,forall_eq_or_imp,forall_eq] at h
  obtain⟨h0,h1,h2,h3,h4,h5,h6⟩:=h
  generalize l.length=m at *
  clear HA
  go_enter Tryz.func81,Tryz.ntmps81
  go_wp2_with fail
  refine (hwd.o).mono ?_
  rintro e w2 ⟨rfl,hb⟩
  have iI:=ae ((hb.block w.heap.size (by simp)).trans hx0.o)
  have HB2:=ae (hb0.o.trans (hb.mono hb0.o.size))
  obtain⟨⟨k0,k1,k2,k3,k4⟩,_,_,_,_,_⟩:=dN iI.o
  clear hb hwd hb0 hx0
  go_wp2_with fail
  go_ret
  exact⟨rfl,HB2.o⟩
def aeR (s:ByteArray)(w:World) (σ:St)(t:T)(w2:World):Prop:=∃ σ':St,RInv s w σ' w2∧(σ'.ps.map Prod.fst,σ'.dn.map Prod.fst)=sS (σ.ps.map Prod.fst) (σ.dn.map Prod.fst) t∧σ'.ps.length=σ.ps.length∧(σ.ps≠[]→σ'.dn=σ.dn) ∧
 ∀ p∈σ'.ps,∃ p0∈σ.ps,p.1.kids.length≤p0.1.kids.length+1
theorem add_any {s:ByteArray} {w w1:World} {σ:St} (h:RInv s w σ w1)(x:TP)(hx:x.1.kids.length≤x.2.2∧mQ w1 (σ.free (w.heap.size+2) w1) x.2.1 x.1.kids)(hfew:σ.ps.length≤12)(hk:∀ p∈σ.ps,p.1.kids.length≤600)(hd:σ.ps=[]→σ.dn=[]) :
 Calls Tryz.prog 54 #[.pointer (some ⟨w.heap.size+1,0,none⟩),.agg #[.int .i64 x.1.k,.string x.1.s,.int .i64 x.1.n,.slice x.2.1 x.1.kids.length x.2.2,.int .i64 x.1.at_]] w1 fun e w2=>e=.returned (.tuple #[])∧aeR s w σ x.1 w2:=by
 obtain⟨⟨k,xs,xn,l,a⟩,A0,c0⟩:=x
 have hz:=h.size
 rcases Nat.eq_zero_or_pos σ.ps.length with h0|h0
 ·have hps:σ.ps=[]:=bF h0
  have hdn:=hd hps
  obtain⟨hB,hcB⟩:=h.bn hdn
  have hrd:=h.rd
  rw[hps,hdn,hB,hcB] at hrd
  refine (VR (w.heap.size+1) σ.c (w.heap.size+2) σ.A s k xn a xs l A0 l.length c0 w1 hrd (by omega) rfl).mono ?_
  rintro e w2 ⟨rfl,he⟩
  refine⟨rfl,?_⟩
  obtain⟨g',cap',hr⟩:=h.done hps hdn hx he
  refine⟨_,hr,?_,rfl,fun hne=>absurd hps hne,fun p hp=>?_⟩
  ·simp only[hps,hdn,List.map_nil,List.map_cons]
   rfl
  ·simp only[hps] at hp;cases hp
 ·obtain⟨m,hm⟩:∃ m,σ.ps.length=m+1:=⟨σ.ps.length-1,by omega⟩
  obtain⟨p,hp⟩:∃ p,σ.ps[m]?=some p:=⟨_,aO (by omega)⟩
  have hpm:=aN hp
  obtain⟨qs,hqs,ho,hqk⟩:=h.kid p hpm
  obtain⟨hl,hc⟩:=h.own
  rcases hc with⟨_,h'⟩|⟨gO,O6,cur,e1,hb,hg,hnc,hcm,hcs,htake⟩
  ·omega
  ·have hA:σ.A=some ⟨gO,0,none⟩:=by injection e1
   have hrd:=h.rd
   rw[hA,hm] at hrd
   have O7:cur[m*5+3]?=some (.slice p.2.1 p.1.kids.length p.2.2):=by
    have h5:=(pM σ.ps m p hp).2.2.2.1
    rw[←htake,List.getElem?_take_of_lt (by omega),Array.getElem?_toList] at h5
    exact h5
   refine (Yv (w.heap.size+1) gO m σ.c (.slice σ.B σ.dn.length σ.cB) s cur p.2.1 p.1.kids.length p.2.2 (w.heap.size+2) qs k xn a xs l A0 l.length c0 w1 hrd hg O7 (by omega) (hk p hpm) (by omega) rfl ho (fun ad e=>?_)).mono ?_
   ·have hbk:bk p.2.1 ad.block:=⟨ad,e,rfl⟩
    refine⟨fun e2=>by have:=(jZ ho hbk).1;omega,fun e2=>(h.ak p hpm ad.block hbk).1 ?_⟩
    rw[hA]
    exact lQ.2 e2.symm
   ·rintro e w2 ⟨rfl,he⟩
    refine⟨rfl,?_⟩
    obtain⟨g',cap',hr⟩:=h.abw hm hp hA hg rfl hqs hqk hx he
    refine⟨_,hr,?_,by simp,fun _=>rfl,fun q hq=>?_⟩
    ·unfold sS
     rw[bM,hm,Nat.add_sub_cancel,bP,hp]
     simp only[Option.map_some,List.map_set]
    ·obtain⟨j,hj⟩:=List.mem_iff_getElem?.1 hq
     by_cases ej:m=j
     ·subst ej
      have hj':(p.1.kid (.mk k xs xn l a),some ⟨g',0,none⟩,cap')=q:=by
       have:=hj
       simp only[List.getElem?_set_self (show m<σ.ps.length by omega)] at this
       exact aY this
      subst hj'
      exact⟨p,hpm,by show (p.1.kids++[_]).length≤_;simp⟩
     ·have hj':σ.ps[j]?=some q:=by have:=hj;simp only[List.getElem?_set_ne ej] at this;exact this
      exact⟨q,aN hj',by omega⟩
theorem jF {α:Type} {l:List α} {j n:Nat} (h:n=l.length)(hj:j<n):∃ x,l[j]?=some x:=⟨_,aO (by omega)⟩
theorem Dh {w:World} {S:Nat→Prop} {A:Option Addr} {l:List ByteArray} (h:Lies w S A (strs l)) {j:Nat} {x:ByteArray} (hx:l[j]?=some x):∃ b o,A=some ⟨b,o,none⟩∧S b∧w.cell? ⟨b,o+j,none⟩=some (.string x):=by
 rcases h with h|⟨b,o,hA,hb,hc⟩
 ·have:l=[]:=by simpa [strs] using h
  subst this
  simp at hx
 ·exact⟨b,o,hA,hb,hc j _ (by rw[strs,bP,hx];rfl)⟩
theorem pG {j n:Nat} (h:j<n):n-(intOf (Value.int .i64 ((j:Int)+1))).toNat<n-(intOf (Value.int .i64 (j:Int))).toNat:=by
 simp[intOf];omega
abbrev LT (w:World):Nat→Prop:=fun k=>k<w.heap.size
theorem xZ (l:List ByteArray)(hn:l.length≤9223372036854775807)(A B:Option Addr)(c d:Nat)(w:World)(hA:Lies w (LT w) A (strs l))(hB:Lies w (LT w) B (strs l)) :
 Calls Tryz.prog 73 #[.slice A l.length c,.slice B l.length d] w fun e w'=>e=.returned (.bool true)∧Below w.heap.size w w':=by
 have HA:=ae hA
 have HB:=ae hB
 obtain⟨m,em⟩:∃ m,m=l.length:=⟨_,rfl⟩
 have yt:=ae em
 rw[←em] at hn ⊢
 clear hA hB em
 go_enter Tryz.func73,Tryz.ntmps73
 go_wp2_with fail
 go_loopw [13] (fun i wr=>∃ j:Nat,j≤m∧i=.int .i64 j∧Below w.heap.size w wr) (fun i _=>m-(intOf i).toNat)
 case atStart=>exact⟨0,aX _,rfl,aG _ _⟩
 case round =>
  obtain⟨j,hj,rfl,hb⟩:=hrel
  by_cases hlt:j<m
  ·obtain⟨x,hx⟩:=jF yt.o hlt
   obtain⟨b,o,rfl,h1,c1⟩:=Dh HA.o hx
   obtain⟨b2,o2,rfl,h2,c2⟩:=Dh HB.o hx
   have c1':=(hb.cell (p:=⟨b,o+j,none⟩) h1).trans c1
   have c2':=(hb.cell (p:=⟨b2,o2+j,none⟩) h2).trans c2
   have oL:=ae hb
   clear c1 c2 hx hb
   go_upto_region 6 with (fail)
   go_quiet (fail)
   go_wp2_with fail
   go_roundw
   case measure=>exact pG hlt
   case rel=>exact⟨j+1,hlt,by simp,below_drewN oL.o _⟩
  ·have oL:=ae hb
   go_wp2_with fail
   go_ret
   exact⟨rfl,oL.o⟩
theorem zH {w:World} {S:Nat→Prop} {A:Option Addr} {l:List Ag} (h:Lies w S A (jd l)) {j:Nat} {x:Ag} (hx:l[j]?=some x) :
 ∃ b o,A=some ⟨b,o,none⟩∧S b∧w.cell? ⟨b,o+j*3,none⟩=some (.string x.nm)∧w.cell? ⟨b,o+j*3+1,none⟩=some (.string x.fn)∧w.cell? ⟨b,o+j*3+2,none⟩=some (.string x.xH):=by
 rcases h with h|⟨b,o,hA,hb,hc⟩
 ·have:=GV l
  rw[h] at this
  have hl:l=[]:=bF (by simp at this;omega)
  subst hl
  simp at hx
 ·have hg:∀ t u,(Ag.cs x)[t]?=some u→(jd l)[j*3+t]?=some u:=by
   intro t u hu
   have ht:t<3:=by have:=(aV.1 hu).1;exact this
   clear hc hA
   induction l generalizing j with
   | nil=>simp at hx
   | cons y l ih =>
     have e:jd (y::l)=Ag.cs y++jd l:=rfl
     rw[e]
     cases j with
     | zero =>
       obtain rfl:y=x:=by simpa using hx
       rw[Nat.zero_mul,Nat.zero_add,List.getElem?_append_left (by show t<3;omega)]
       exact hu
     | succ i =>
       rw[bK (by show 3≤_;omega),show (Ag.cs y).length=3 from rfl,show (i+1)*3+t-3=i*3+t by omega]
       exact ih (by simpa using hx)
  exact⟨b,o,hA,hb,hc _ _ (hg 0 _ rfl),hc _ _ (hg 1 _ rfl),hc _ _ (hg 2 _ rfl)⟩
@[go_sem] theorem acR (op:BinOp)(x y:Operand)(xs ys:Array Value)(w:World):(eqGuard op 46 x y (.agg xs) (.agg ys)).run Tryz.prog w=.ok () w:=run_eqGuard_agg w op _ x y xs ys (by kernel_rfl)
theorem Yq (xn xf xc:ByteArray)(w:World) :
 (binOp .neq 46 (.agg #[.string xn,.string xf,.string xc]) (.agg #[.string xn,.string xf,.string xc])).run Tryz.prog w=.ok (.bool false) w:=by
 have hS:Tryz.prog.underlying 46=some (.struct (Tryz.prog.fieldsOf 46)):=by kernel_rfl
 have hp:Tryz.prog.stoodInHeld 46=false:=by kernel_rfl
 have u3:=Tryz.underlying9
 rw[run_neq_struct,show (10000:Nat)=9999+1 from rfl,run_equalIn_agg w 9999 _ _ _ hS hp]
 simp only[Program.fieldsOf,Tryz.underlying46]
 go_simp
theorem Yr (l:List Ag)(hn:l.length≤9223372036854775807)(A B:Option Addr)(c d:Nat)(w:World)(hA:Lies w (LT w) A (jd l))(hB:Lies w (LT w) B (jd l)) :
 Calls Tryz.prog 74 #[.slice A l.length c,.slice B l.length d] w fun e w'=>e=.returned (.bool true)∧Below w.heap.size w w':=by
 have HA:=ae hA
 have HB:=ae hB
 obtain⟨m,em⟩:∃ m,m=l.length:=⟨_,rfl⟩
 have yt:=ae em
 rw[←em] at hn ⊢
 clear hA hB em
 go_enter Tryz.func74,Tryz.ntmps74
 go_wp2_with fail
 go_loopw [13] (fun i wr=>∃ j:Nat,j≤m∧i=.int .i64 j∧Below w.heap.size w wr) (fun i _=>m-(intOf i).toNat)
 case atStart=>exact⟨0,aX _,rfl,aG _ _⟩
 case round =>
  obtain⟨j,hj,rfl,hb⟩:=hrel
  by_cases hlt:j<m
  ·obtain⟨x,hx⟩:=jF yt.o hlt
   obtain⟨b,o,rfl,h1,a0,a1,a2⟩:=zH HA.o hx
   obtain⟨b2,o2,rfl,h2,b0,b1,b2'⟩:=zH HB.o hx
   have c0:=(hb.cell (p:=⟨b,o+j*3,none⟩) h1).trans a0
   have c1:=(hb.cell (p:=⟨b,o+j*3+1,none⟩) h1).trans a1
   have c2:=(hb.cell (p:=⟨b,o+j*3+2,none⟩) h1).trans a2
   have d0:=(hb.cell (p:=⟨b2,o2+j*3,none⟩) h2).trans b0
   have d1:=(hb.cell (p:=⟨b2,o2+j*3+1,none⟩) h2).trans b1
   have d2:=(hb.cell (p:=⟨b2,o2+j*3+2,none⟩) h2).trans b2'
   have oL:=ae hb
   obtain⟨an,af,ac⟩:=x
   have hq:=fun w=>Yq an af ac w
   clear a0 a1 a2 b0 b1 b2' hx hb
   go_upto_region 6 with (fail)
   go_quiet (fail)
   go_wp2_with fail
   go_roundw
   case measure=>exact pG hlt
   case rel=>exact⟨j+1,hlt,by simp,below_drewN oL.o _⟩
  ·have oL:=ae hb
   go_wp2_with fail
   go_ret
   exact⟨rfl,oL.o⟩
def QA (e:E):Prop:=∀ (A B:Option Addr)(c d:Nat)(w:World),iZ w w.heap.size A e.kids→iZ w w.heap.size B e.kids→Calls Tryz.prog 72 #[e.val A c,e.val B d] w fun r w'=>r=.returned (.bool true)∧Below w.heap.size w w'
theorem Iq (l:List E)(hM:∀ e∈l,QA e)(A B:Option Addr)(c d:Nat)(w:World)(hA:iZ w w.heap.size A l)(hB:iZ w w.heap.size B l) :
 Calls Tryz.prog 71 #[.slice A l.length c,.slice B l.length d,.func (.func 72) #[] #[]] w fun e w'=>e=.returned (.bool true)∧Below w.heap.size w w':=by
 have hn:=hA.len
 have HA:=ae hA.gy
 have HB:=ae hB.gy
 have HM:=ae hM
 obtain⟨m,em⟩:∃ m,m=l.length:=⟨_,rfl⟩
 have yt:=ae em
 rw[←em] at hn ⊢
 clear hA hB em hM
 go_enter Tryz.func71,Tryz.ntmps71
 go_wp2_with fail
 go_loopw [17] (fun i wr=>∃ j:Nat,j≤m∧i=.int .i64 j∧Below w.heap.size w wr) (fun i _=>m-(intOf i).toNat)
 case atStart=>exact⟨0,aX _,rfl,aG _ _⟩
 case round =>
  obtain⟨j,hj,rfl,hb⟩:=hrel
  by_cases hlt:j<m
  ·obtain⟨x,hx⟩:=jF yt.o hlt
   obtain⟨b,o,A',c',rfl,hb1,a0,a1,a2,a3,hKa⟩:=HA.o _ hb j x hx
   obtain⟨wx,iK⟩:∃ wx,wx=wr.alloc (.cells #[.int .i64 x.k,.string x.s,.int .i64 x.n,.slice A' x.kids.length c'] 38):=⟨_,rfl⟩
   have hbx:Below wr.heap.size wr wx:=by rw[iK];exact (aG _ _).alloc (aF _) _
   have hnx:wx.heap[wr.heap.size]?=some (.cells #[.int .i64 x.k,.string x.s,.int .i64 x.n,.slice A' x.kids.length c'] 38 (0,0)):=by rw[iK];exact aH wr _
   have hbw:Below w.heap.size w wx:=hb.trans (hbx.mono hb.size)
   obtain⟨b2,o2,B',d',rfl,hb2,b0,b1,b2',b3,hKb⟩:=HB.o _ hbw j x hx
   obtain⟨wy,zY⟩:∃ wy,wy=wx.alloc (.cells #[.int .i64 x.k,.string x.s,.int .i64 x.n,.slice B' x.kids.length d'] 38):=⟨_,rfl⟩
   have hby:Below wx.heap.size wx wy:=by rw[zY];exact (aG _ _).alloc (aF _) _
   have hny:wy.heap[wx.heap.size]?=some (.cells #[.int .i64 x.k,.string x.s,.int .i64 x.n,.slice B' x.kids.length d'] 38 (0,0)):=by rw[zY];exact aH wx _
   have hnx2:=(hby.block _ (aU.1 hnx).1).trans hnx
   have D5:=ae (hbw.trans (hby.mono hbw.size))
   have lG:=ae (HM.o x (aN hx) A' B' c' d' wy ((hKa.low (hbx.trans (hby.mono hbx.size))).more (hbx.trans (hby.mono hbx.size)).size) ((hKb.low hby).more hby.size))
   have ni:=ae iK
   have RS:=ae zY
   clear iK zY hbx hby hbw hnx hx hKa hKb
   obtain⟨xk,xs,xn,xl⟩:=x
   simp only[E.val,E.k,E.s,E.n,E.kids] at a0 a1 a2 a3 b0 b1 b2' b3 lG ni RS hnx2 hny
   generalize xl.length=xm at *
   obtain⟨⟨e0,e1,e2,e3⟩,_,_,_,_⟩:=fQ hnx2
   obtain⟨⟨f0,f1,f2,f3⟩,_,_,_,_⟩:=fQ hny
   go_upto_region 6 with (fail)
   rw[←ni.o]
   go_upto_region 7 with (fail)
   rw[←RS.o]
   go_wp2_with fail
   refine (lG.o).mono ?_
   rintro e w3 ⟨rfl,hb3⟩
   have HB3:=ae (D5.o.trans (hb3.mono D5.o.size))
   clear hb3
   go_wp2_with fail
   go_roundw
   case measure=>exact pG hlt
   case rel=>exact⟨j+1,hlt,by simp,HB3.o⟩
  ·have oL:=ae hb
   go_wp2_with fail
   go_ret
   exact⟨rfl,oL.o⟩
theorem OO (k:Int)(s:ByteArray)(n:Int)(l:List E)(hM:∀ e∈l,QA e):QA (.mk k s n l):=by
 intro A B c d w hA hB
 simp only[E.val,E.k,E.s,E.n,E.kids] at hA hB ⊢
 obtain⟨w1,dZ⟩:∃ w1,w1=(w.alloc (.cells #[.int .i64 k,.string s,.int .i64 n,.slice A l.length c] 38)).alloc (.cells #[.int .i64 k,.string s,.int .i64 n,.slice B l.length d] 38):=⟨_,rfl⟩
 have hb1:Below w.heap.size w w1:=by rw[dZ];exact ((aG _ _).alloc (aF _) _).alloc (by simp) _
 have HC:=ae (Iq l hM A B c d w1 ((hA.low hb1).more hb1.size) ((hB.low hb1).more hb1.size))
 have HB1:=ae hb1
 have hx1:w1.heap[w.heap.size]?=some (.cells #[.int .i64 k,.string s,.int .i64 n,.slice A l.length c] 38 (0,0)):=by
  rw[dZ]
  exact (aP _ _ _ (by simp)).trans (aH w _)
 have hx2:w1.heap[w.heap.size+1]?=some (.cells #[.int .i64 k,.string s,.int .i64 n,.slice B l.length d] 38 (0,0)):=by
  rw[dZ]
  have:=aH (w.alloc (.cells #[.int .i64 k,.string s,.int .i64 n,.slice A l.length c] 38)) (.cells #[.int .i64 k,.string s,.int .i64 n,.slice B l.length d] 38)
  simpa using this
 have HW1:=ae dZ
 generalize l.length=m at *
 clear hA hB hM dZ hb1
 obtain⟨⟨e0,e1,e2,e3⟩,_,_,_,_⟩:=fQ hx1
 obtain⟨⟨f0,f1,f2,f3⟩,_,_,_,_⟩:=fQ hx2
 go_enter Tryz.func72,Tryz.ntmps72
 go_upto_region 1 with (fail)
 rw[←HW1.o]
 go_wp2_with fail
 refine (HC.o).mono ?_
 rintro e w3 ⟨rfl,hb3⟩
 have HB3:=ae (HB1.o.trans (hb3.mono HB1.o.size))
 clear hb3
 go_wp2_with fail
 go_ret
 exact⟨rfl,HB3.o⟩
theorem SN:∀ e,QA e:=E.ind OO
end Go.Proofs.YtjhkihkiebnpaaaGreatDoor
