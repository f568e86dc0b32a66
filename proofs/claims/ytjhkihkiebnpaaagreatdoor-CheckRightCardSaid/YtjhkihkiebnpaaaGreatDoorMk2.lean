/-
  Package plan's reader: agg.
-/
import Derived.Test.YtjhkihkiebnpaaaGreatDoorMk1
import Derived.Test.YtjhkihkiebnpaaaGreatDoorMk0
import Derived.RegionTactic
import Derived.BigQuiet
import Derived.Deep.Onto
import Derived.WalkLawsBesides
import Derived.KernelRfl
import Derived.Deep.AppendLies
import Derived.IntWalk
import Derived.Laws.IdiomStrings
import Derived.Laws.BytesArg
import Derived.Lib.AppendIntMem
import Derived.Lib.ItoaLen
import Derived.StillTailTactics
import Derived.Deep.RegionLaw
import Derived.Deep.DeepCutAuto
import Derived.Lib.Join
set_option linter.unusedVariables false
set_option linter.unusedSimpArgs false
set_option maxRecDepth 100000
set_option maxHeartbeats 40000000
namespace Go.Proofs.YtjhkihkiebnpaaaGreatDoor
open Go.RowKit
theorem IE:(Tryz.prog.info? 46).map (fun i=>(i.zero,i.size,i.bytes))=some (some (.agg #[.string ByteArray.empty,.string ByteArray.empty,.string ByteArray.empty]),3,48):=by kernel_rfl
theorem bP {fn:Func} {p:Tmp} (h:fn.results=#[.cell p 46]) {tmps:Array Value} {w:World} {g:Nat} {x0 x1 x2:Value} {t:TypeId}
 (hp:tmps.getD p undef=.pointer (some ⟨g,0,none⟩))(hg:w.heap[g]?=some (.cells #[x0,x1,x2] t (0,0))):(results fn tmps).run Tryz.prog w=.ok (.agg #[x0,x1,x2]) w:=by
 have hp':tmps[p]?.getD undef=.pointer (some ⟨g,0,none⟩):=by simpa using hp
 have hl:=run_loadVar_row (P:=Tryz.prog) w g t 46 #[x0,x1,x2] (0,0) _ hg Tryz.underlying46 rfl (by show _=some 3;kernel_rfl)
 simp [results,h,hp',asAddr,hl]
theorem bz.at {w:World} {B:Nat} {A:Option Addr} {l:List T} (h:bz w B A l)(hB:B≤w.heap.size) {i:Nat} {x:T} (hx:l[i]?=some x) :
 ∃ b o A' c',A=some ⟨b,o,none⟩∧b < B∧w.cell? ⟨b,o+i * 5,none⟩=some (.int .i64 x.k)∧w.cell? ⟨b,o+i * 5+1,none⟩=some (.string x.s) ∧
   w.cell? ⟨b,o+i * 5+2,none⟩=some (.int .i64 x.n)∧w.cell? ⟨b,o+i * 5+3,none⟩=some (.slice A' x.kids.length c')∧w.cell? ⟨b,o+i * 5+4,none⟩=some (.int .i64 x.at_)∧x.kids.length≤c'∧bz w B A' x.kids:=by
 cases h with
 | nil A=>simp at hx
 | mk b off l hn hlt A c h hk =>
   obtain ⟨h1,h2,h3,h4,h5,h6⟩:=h i x hx
   exact ⟨b,off,A i,c i,rfl,hlt,h1,h2,h3,h4,h5,h6,hk i x hx⟩
theorem Only.drew {g:Nat} {w w':World} (h:Only g w w'):Only g w w'.drew:=⟨h.os,h.tape,h.output,h.size,h.block⟩
theorem Only.yO {g:Nat} {w w':World} (h:Only g w.drew w'):Only g w w':=⟨h.os,h.tape,h.output,h.size,h.block⟩
theorem bH {w:World} {g:Nat} {a b c:Value} {t:TypeId} (h:w.heap[g]?=some (.cells #[a,b,c] t (0,0))) :
 (w.cell? ⟨g,0,none⟩=some a∧w.cell? ⟨g,1,none⟩=some b∧w.cell? ⟨g,2,none⟩=some c)∧w.frozen? ⟨g,0,none⟩=false∧w.frozen? ⟨g,1,none⟩=false∧w.frozen? ⟨g,2,none⟩=false:=by
 simp [World.cell?,World.frozen?,h]
theorem RY {w:World} {g k:Nat} {a b c u:Value} {t:TypeId} (h:w.heap[g]?=some (.cells #[a,b,c] t (0,0))):(w.setCell ⟨g,k,none⟩ u).heap[g]?=some (.cells (#[a,b,c].set! k u) t (0,0)):=by
 show (w.heap.modify g _)[g]?=_
 rw [Array.getElem?_modify]
 simp [h]
def BM (w:World)(p:Nat)(x0 x1 x2:Value):World:=((w.setCell ⟨p,0,none⟩ x0).setCell ⟨p,1,none⟩ x1).setCell ⟨p,2,none⟩ x2
theorem bJ {w:World} {p:Nat} {a b c x0 x1 x2:Value} {t:TypeId} (h:w.heap[p]?=some (.cells #[a,b,c] t (0,0))):(BM w p x0 x1 x2).heap[p]?=some (.cells #[x0,x1,x2] t (0,0)) :=
 RY (k:=2) (RY (k:=1) (RY (k:=0) h))
theorem bK {w:World} {p k:Nat} {x0 x1 x2:Value} (h:k≠p):(BM w p x0 x1 x2).heap[k]?=w.heap[k]?:=by
 simp only [BM,World.setCell,Array.getElem?_modify]
 rw [if_neg (by omega),if_neg (by omega),if_neg (by omega)]
theorem KZ {w:World} {p:Nat} {x0 x1 x2:Value}:(BM w p x0 x1 x2).heap.size=w.heap.size:=by simp [BM,World.setCell]
theorem ui (l:List UInt8):l=nz∨l=rD∨l=rE∨l=dQ∨((l == nz)=false∧(l == rD)=false∧(l == rE)=false∧(l == dQ)=false):=by
 by_cases h1:l=nz
 ·exact .inl h1
 by_cases h2:l=rD
 ·exact .inr (.inl h2)
 by_cases h3:l=rE
 ·exact .inr (.inr (.inl h3))
 by_cases h4:l=dQ
 ·exact .inr (.inr (.inr (.inl h4)))
 exact .inr (.inr (.inr (.inr ⟨beq_eq_false_iff_ne.2 h1,beq_eq_false_iff_ne.2 h2,beq_eq_false_iff_ne.2 h3,beq_eq_false_iff_ne.2 h4⟩)))
theorem RZ (t:T)(A:Option Addr)(c:Nat)(g:Nat)(st:eY)(w:World)(h:qo w g st)(hA:bz w g A t.kids)(hn:t.kids.length=2∨t.kids.length=3) :
 Calls Tryz.prog 60 #[.pointer (some ⟨g,0,none⟩),t.val A c] w fun r w' =>
  r=.returned (.agg #[.string (kU t.kids).nm,.string (kU t.kids).fn,.string (kU t.kids).vw])∧Only g w w'∧qo w' g (mg t.kids st):=by
 obtain ⟨k,s,n,l,a⟩:=t
 simp only [T.val,T.k,T.s,T.n,T.kids,T.at_] at hA hn ⊢
 have hlt:=h.lt
 obtain ⟨x,hx⟩:∃ x,l[0]?=some x:=⟨_,anr (by omega)⟩
 obtain ⟨y,hy⟩:∃ y,l[1]?=some y:=⟨_,anr (by omega)⟩
 obtain ⟨wa,nC⟩:∃ wa,wa=w.alloc (.cells #[.int .i64 k,.string s,.int .i64 n,.slice A l.length c,.int .i64 a] 71):=⟨_,rfl⟩
 have hba:Below w.heap.size w wa:=by rw [nC];exact (anl _ _).alloc (ank _) _
 have hsa:wa.heap.size=w.heap.size+1:=by rw [nC];simp
 have hxa:wa.heap[w.heap.size]?=some (.cells #[.int .i64 k,.string s,.int .i64 n,.slice A l.length c,.int .i64 a] 71 (0,0)):=by rw [nC];exact anm w _
 obtain ⟨w1,aK⟩:∃ w1,w1=wa.alloc (.cells #[.string ⟨#[]⟩,.string ⟨#[]⟩,.string ⟨#[]⟩] 46):=⟨_,rfl⟩
 have hb1:Below wa.heap.size wa w1:=by rw [aK];exact (anl _ _).alloc (ank _) _
 have hs1:w.heap.size+1 < w1.heap.size:=by rw [aK];simp;omega
 have hr1:w1.heap[w.heap.size+1]?=some (.cells #[.string ⟨#[]⟩,.string ⟨#[]⟩,.string ⟨#[]⟩] 46 (0,0)):=by rw [aK,← hsa];exact anm wa _
 have hx1:w1.heap[w.heap.size]?=some (.cells #[.int .i64 k,.string s,.int .i64 n,.slice A l.length c,.int .i64 a] 71 (0,0)):=(hb1.block _ (by omega)).trans hxa
 have hbw:Below w.heap.size w w1:=hba.trans (hb1.mono (by omega))
 have HW1:=anc (show w1=(w.alloc (.cells #[.int .i64 k,.string s,.int .i64 n,.slice A l.length c,.int .i64 a] 71)).alloc (.cells #[.string ⟨#[]⟩,.string ⟨#[]⟩,.string ⟨#[]⟩] 46) by rw [aK,nC])
 have Kz:=anc (hA.low (hbw.mono (Nat.le_of_lt hlt)))
 have HR1:=anc (h.kept hbw)
 have gU:=anc hx1
 have HT1:=anc hr1
 have HB1:=anc hbw
 clear nC hba hsa hxa aK hb1 hr1 hx1 hbw h hA wa
 obtain ⟨b,o,A1,c1,rfl,hbg,m0,m1,m2,m3,m4,hc1,hK1⟩:=Kz.out.at (by omega) hx
 obtain ⟨b',o',A2,c2,e9,La,p0,p1,p2,p3,p4,hc2,hK2⟩:=Kz.out.at (by omega) hy
 obtain ⟨rfl,rfl⟩:b=b'∧o=o':=by injection e9 with e9;injection e9 with e9 e10;exact ⟨e9,e10⟩
 rw [Nat.zero_mul,Nat.add_zero] at m0 m1 m2 m3 m4
 rw [Nat.one_mul] at p0 p1 p2 p3 p4
 have Si:=anc (fun wx (hx:qo wx g st)=>fG x A1 c1 g st wx hx)
 have hV:Hid (kU l=⟨x.s,y.s,if l.length=3 then (l.getD 2 aH).s else ⟨#[]⟩⟩):=anc (by unfold kU;rw [getD_some hx,getD_some hy])
 have hO:Hid (lM l=if l.length=2 then y.s.toList == dQ else ((y.s.toList == nz || y.s.toList == rD) || y.s.toList == rE)):=anc (by unfold lM;rw [getD_some hy])
 have hR:Hid (lN l st=if lM l then eF x st else rF 12 y.at_ (eF x st)):=anc (by unfold lN;rw [getD_some hx,getD_some hy])
 have hR2:Hid (mg l st=if l.length=3 then eF (l.getD 2 aH) (lN l st) else lN l st):=anc rfl
 have HP:=anc p1
 obtain ⟨⟨k0,k1,k2,k3,k4⟩,_,_,_,_,_⟩:=ay gU.out
 generalize kU l=V at *
 generalize mg l st=R2 at *
 generalize lN l st=R1 at *
 generalize lM l=ok at *
 generalize eF x st=st1 at *
 obtain ⟨xk,xs,xn,xl,xa⟩:=x
 obtain ⟨yk,ys,yn,yl,ya⟩:=y
 simp only [T.val,T.k,T.s,T.n,T.kids,T.at_] at m0 m1 m2 m3 m4 p0 p1 p2 p3 p4 Si hV hO hR HP
 clear e9 La hc1 hc2 hK1 hK2
 generalize xl.length=xm at *
 generalize yl.length=ym at *
 have hx':=anc hx
 have hy':=anc hy
 clear hx hy
 have KA:Hid (∀ z,l[2]?=some z→l.getD 2 aH=z):=anc fun z hz=>getD_some hz
 have aeD:∃ m,l.length=m:=⟨_,rfl⟩
 generalize hem:l.length=m at *
 have wF:=anc hem
 clear hem aeD
 have hm0:0 < m:=by omega
 have hm1:1 < m:=by omega
 have hm2:(1:Int) < (m:Int):=by omega
 have q1:w.heap.size < w1.heap.size:=by omega
 have q2:w.heap.size≠g:=by omega
 have q3:b < w1.heap.size:=by omega
 have q4:b≠g:=by omega
 go_enter Tryz.func60,Tryz.ntmps60
 go_upto_region 1 with (fail)
 rw [← HW1.out]
 refine wp_region_held_drew (S:=fun w'=>Only g w1 w') (by kernel_rfl) ((Only.refl g w1).drew) (fun hHeld=>?_)
 refine wpAnyH_take (i:=0) (v:=.pointer (some ⟨g,0,none⟩)) rfl (by kernel_rfl) (by kernel_rfl) (by kernel_rfl) (fun _ _ _ h=>h) (Or.inl ⟨by rfl,fun w1' hSw=>by (go_simp)⟩) (by assumption) ?_
 simp only [ane,anf,Act.put,anh,ani,anj]
 refine wpAnyH_take (i:=1) (v:=.pointer (some ⟨w.heap.size,3,none⟩)) rfl (by kernel_rfl) (by kernel_rfl) (by kernel_rfl) (fun _ _ _ h=>h) (Or.inl ⟨by rfl,fun w1' hSw=>by (go_simp)⟩) (by assumption) ?_
 simp only [ane,ang,anf,Act.put,anh,ani,anj]
 refine wpAnyH_take (i:=2) (v:=.slice (some ⟨b,o,none⟩) m c) rfl (by kernel_rfl) (by kernel_rfl) (by kernel_rfl) (fun _ _ _ h=>h) (Or.inl ⟨by rfl,fun w1' hSw=>by (have j3:=(hSw.cell (p:=⟨w.heap.size,3,none⟩) q1 q2).trans k3;go_simp)⟩) (by assumption) ?_
 simp only [ane,ang,anf,Act.put,anh,ani,anj]
 refine wpAnyH_take (i:=3) (v:=.pointer (some ⟨b,o,none⟩)) rfl (by kernel_rfl) (by kernel_rfl) (by kernel_rfl) (fun _ _ _ h=>h) (Or.inl ⟨by rfl,fun w1' hSw=>by (go_simp)⟩) (by assumption) ?_
 simp only [ane,ang,anf,Act.put,anh,ani,anj]
 refine wpAnyH_take (i:=4) (v:=.agg #[.int .i64 xk,.string xs,.int .i64 xn,.slice A1 xm c1,.int .i64 xa]) rfl (by kernel_rfl) (by kernel_rfl) (by kernel_rfl) (fun _ _ _ h=>h) (Or.inl ⟨by rfl,fun w1' hSw=>by (have m0':=(hSw.cell (p:=⟨b,o,none⟩) q3 q4).trans m0;have m1':=(hSw.cell (p:=⟨b,o+1,none⟩) q3 q4).trans m1;have m2':=(hSw.cell (p:=⟨b,o+2,none⟩) q3 q4).trans m2;have m3':=(hSw.cell (p:=⟨b,o+3,none⟩) q3 q4).trans m3;have m4':=(hSw.cell (p:=⟨b,o+4,none⟩) q3 q4).trans m4;go_simp)⟩) (by assumption) ?_
 simp only [ane,ang,anf,Act.put,anh,ani,anj]
 refine wpAnyH_take (i:=6) (v:=.pointer (some ⟨w.heap.size,3,none⟩)) rfl (by kernel_rfl) (by kernel_rfl) (by kernel_rfl) (fun _ _ _ h=>h) (Or.inl ⟨by rfl,fun w1' hSw=>by (go_simp)⟩) (by assumption) ?_
 simp only [ane,ang,anf,Act.put,anh,ani,anj]
 refine wpAnyH_take (i:=7) (v:=.slice (some ⟨b,o,none⟩) m c) rfl (by kernel_rfl) (by kernel_rfl) (by kernel_rfl) (fun _ _ _ h=>h) (Or.inl ⟨by rfl,fun w1' hSw=>by (have j3:=(hSw.cell (p:=⟨w.heap.size,3,none⟩) q1 q2).trans k3;go_simp)⟩) (by assumption) ?_
 simp only [ane,ang,anf,Act.put,anh,ani,anj]
 refine wpAnyH_take (i:=8) (v:=.pointer (some ⟨b,o+5,none⟩)) rfl (by kernel_rfl) (by kernel_rfl) (by kernel_rfl) (fun _ _ _ h=>h) (Or.inl ⟨by rfl,fun w1' hSw=>by (go_simp)⟩) (by assumption) ?_
 simp only [ane,ang,anf,Act.put,anh,ani,anj]
 refine wpAnyH_take (i:=9) (v:=.pointer (some ⟨b,o+5+1,none⟩)) rfl (by kernel_rfl) (by kernel_rfl) (by kernel_rfl) (fun _ _ _ h=>h) (Or.inl ⟨by rfl,fun w1' hSw=>by (go_simp)⟩) (by assumption) ?_
 simp only [ane,ang,anf,Act.put,anh,ani,anj]
 refine wpAnyH_take (i:=10) (v:=.string ys) rfl (by kernel_rfl) (by kernel_rfl) (by kernel_rfl) (fun _ _ _ h=>h) (Or.inl ⟨by rfl,fun w1' hSw=>by (have p1':=(hSw.cell (p:=⟨b,o+5+1,none⟩) q3 q4).trans p1;go_simp)⟩) (by assumption) ?_
 simp only [ane,ang,anf,Act.put,anh,ani,anj]
 refine wpAnyH_ready (rs:=[5,12]) (by kernel_rfl) (by simp) ?_
 refine AllReadyH.cons rfl (fun K hK=>?_) (AllReadyH.cons rfl (fun K hK=>?_) AllReadyH.nil)
 ·simp only [ane,ang,anf]
  go_simp
  refine (Si.out w1.drew (show qo w1.drew g st from HR1.out)).mono ?_
  rintro e w3 ⟨rfl,hod,hr3⟩
  go_wp2_with fail
  have ho3:=hod.yO
  refine hK.out _ _ ho3 (fun hHeld=>?_)
  clear hK K
  refine wpAnyH_take (i:=11) (v:=.agg #[.string xs,.string ys,.string ⟨#[]⟩]) rfl (by kernel_rfl) (by kernel_rfl) (by kernel_rfl) (fun _ _ _ h=>h) (Or.inl ⟨by rfl,fun w1' hSw=>by (go_simp)⟩) (by assumption) ?_
  simp only [ane,ang,anf,Act.put,anh,ani,anj]
  refine wpAnyH_ready (rs:=[12]) (by kernel_rfl) (by simp) ?_
  refine AllReadyH.cons rfl (fun K hK=>?_) AllReadyH.nil
  simp only [ane,ang,anf]
  go_simp
  have lZ:=ho3.alloc (.cells #[.string ⟨#[]⟩,.string ⟨#[]⟩,.string ⟨#[]⟩] 46)
  refine hK.out _ _ lZ (fun hHeld=>?_)
  clear hK K
  refine wpAnyH_ready (rs:=[13]) (by kernel_rfl) (by simp) ?_
  refine AllReadyH.cons rfl (fun K hK=>?_) AllReadyH.nil
  simp only [ane,ang,anf]
  go_simp
  have hSC:=ho3.alloc (.cells #[.string xs,.string ys,.string ⟨#[]⟩] 46)
  refine hK.out _ _ hSC (fun hHeld=>?_)
  clear hK K
  refine wpAnyH_done (by kernel_rfl) ?_ _
  obtain ⟨w4,wH⟩:∃ w4,w4=w3.alloc (.cells #[.string xs,.string ys,.string ⟨#[]⟩] 46):=⟨_,rfl⟩
  obtain ⟨q,eq⟩:∃ q,q=w3.heap.size:=⟨_,rfl⟩
  skip
  have hq:q < w4.heap.size∧w1.heap.size≤q:=by rw [wH,eq];have:=ho3.size;exact ⟨by simp,this⟩
  have hQ:w4.heap[q]?=some (.cells #[.string xs,.string ys,.string ⟨#[]⟩] 46 (0,0)):=by rw [wH,eq];exact anm w3 _
  have hO4:Only g w1 w4:=by rw [wH];exact hSC
  have VS:qo w4 g st1:=by rw [wH];exact hr3.kept ((anl _ _).alloc (ank _) _)
  rw [← wH,← eq]
  have HQ:=anc hQ
  have jZ:=anc hO4
  have HR4:=anc VS
  have hq1:=hq.1
  have hq2:=hq.2
  have hs4:=hO4.size
  have qU:=anc ((hO4.block w.heap.size q1 q2).trans gU.out)
  have HT4:=anc ((hO4.block (w.heap.size+1) hs1 (by omega)).trans HT1.out)
  have yG:=anc ((hO4.cell (p:=⟨b,o+5+4,none⟩) q3 q4).trans p4)
  clear hQ hO4 VS hq wH eq k0 k1 k2 k3 k4 m0 m1 m2 m3 m4 p0 p1 p2 p3 p4 Si HW1 HP
  have p4:=yG.out
  obtain ⟨⟨k0,k1,k2,k3,k4⟩,_,_,_,_,_⟩:=ay qU.out
  obtain ⟨⟨a0,a1,a2⟩,f0,f1,f2⟩:=bH HQ.out
  obtain ⟨⟨t0,t1,t2⟩,g0,g1,g2⟩:=bH HT4.out
  rcases hn with rfl | rfl
  ·rcases ui ys.toList with h | h | h | h | ⟨e1,e2,e3,e4⟩
   ·have hok:ok=false:=by rw [hO.out,if_pos rfl,h];rfl
    simp only [nz] at h
    go_wp2_with fail
    refine (dD g st1 12 ya w4 HR4.out).mono ?_
    rintro e w5 ⟨rfl,dP,lS⟩
    have fV:=anc dP
    have uG:=anc lS
    have hs5:=dP.size
    have qW:=anc ((dP.block w.heap.size (by omega) q2).trans qU.out)
    have qX:=anc ((dP.block (w.heap.size+1) (by omega) (by omega)).trans HT4.out)
    have uH:=anc ((dP.block q hq1 (by omega)).trans HQ.out)
    clear dP lS a0 a1 a2 f0 f1 f2 t0 t1 t2 g0 g1 g2 k0 k1 k2 k3 k4 p4
    obtain ⟨⟨k0,k1,k2,k3,k4⟩,_,_,_,_,_⟩:=ay qW.out
    obtain ⟨⟨a0,a1,a2⟩,f0,f1,f2⟩:=bH uH.out
    obtain ⟨⟨t0,t1,t2⟩,g0,g1,g2⟩:=bH qX.out
    go_wp2_with fail
    refine ano (bP rfl rfl (bJ qX.out)) rfl ?_
    refine ⟨by rw [hV.out];rfl,((((((aF HB1.out).trans jZ.out).trans fV.out).aA (p:=⟨w.heap.size+1,0,none⟩) (Nat.le_succ _) _).aA (p:=⟨w.heap.size+1,1,none⟩) (Nat.le_succ _) _).aA (p:=⟨w.heap.size+1,2,none⟩) (Nat.le_succ _) _),?_⟩
    rw [hR2.out,hR.out,hok]
    exact (bK (by omega)).trans uG.out
   ·have hok:ok=false:=by rw [hO.out,if_pos rfl,h];rfl
    simp only [rD] at h
    go_wp2_with fail
    refine (dD g st1 12 ya w4 HR4.out).mono ?_
    rintro e w5 ⟨rfl,dP,lS⟩
    have fV:=anc dP
    have uG:=anc lS
    have hs5:=dP.size
    have qW:=anc ((dP.block w.heap.size (by omega) q2).trans qU.out)
    have qX:=anc ((dP.block (w.heap.size+1) (by omega) (by omega)).trans HT4.out)
    have uH:=anc ((dP.block q hq1 (by omega)).trans HQ.out)
    clear dP lS a0 a1 a2 f0 f1 f2 t0 t1 t2 g0 g1 g2 k0 k1 k2 k3 k4 p4
    obtain ⟨⟨k0,k1,k2,k3,k4⟩,_,_,_,_,_⟩:=ay qW.out
    obtain ⟨⟨a0,a1,a2⟩,f0,f1,f2⟩:=bH uH.out
    obtain ⟨⟨t0,t1,t2⟩,g0,g1,g2⟩:=bH qX.out
    go_wp2_with fail
    refine ano (bP rfl rfl (bJ qX.out)) rfl ?_
    refine ⟨by rw [hV.out];rfl,((((((aF HB1.out).trans jZ.out).trans fV.out).aA (p:=⟨w.heap.size+1,0,none⟩) (Nat.le_succ _) _).aA (p:=⟨w.heap.size+1,1,none⟩) (Nat.le_succ _) _).aA (p:=⟨w.heap.size+1,2,none⟩) (Nat.le_succ _) _),?_⟩
    rw [hR2.out,hR.out,hok]
    exact (bK (by omega)).trans uG.out
   ·have hok:ok=false:=by rw [hO.out,if_pos rfl,h];rfl
    simp only [rE] at h
    go_wp2_with fail
    refine (dD g st1 12 ya w4 HR4.out).mono ?_
    rintro e w5 ⟨rfl,dP,lS⟩
    have fV:=anc dP
    have uG:=anc lS
    have hs5:=dP.size
    have qW:=anc ((dP.block w.heap.size (by omega) q2).trans qU.out)
    have qX:=anc ((dP.block (w.heap.size+1) (by omega) (by omega)).trans HT4.out)
    have uH:=anc ((dP.block q hq1 (by omega)).trans HQ.out)
    clear dP lS a0 a1 a2 f0 f1 f2 t0 t1 t2 g0 g1 g2 k0 k1 k2 k3 k4 p4
    obtain ⟨⟨k0,k1,k2,k3,k4⟩,_,_,_,_,_⟩:=ay qW.out
    obtain ⟨⟨a0,a1,a2⟩,f0,f1,f2⟩:=bH uH.out
    obtain ⟨⟨t0,t1,t2⟩,g0,g1,g2⟩:=bH qX.out
    go_wp2_with fail
    refine ano (bP rfl rfl (bJ qX.out)) rfl ?_
    refine ⟨by rw [hV.out];rfl,((((((aF HB1.out).trans jZ.out).trans fV.out).aA (p:=⟨w.heap.size+1,0,none⟩) (Nat.le_succ _) _).aA (p:=⟨w.heap.size+1,1,none⟩) (Nat.le_succ _) _).aA (p:=⟨w.heap.size+1,2,none⟩) (Nat.le_succ _) _),?_⟩
    rw [hR2.out,hR.out,hok]
    exact (bK (by omega)).trans uG.out
   ·have hok:ok=true:=by rw [hO.out,if_pos rfl,h];rfl
    simp only [dQ] at h
    go_wp2_with fail
    refine ano (bP rfl rfl (bJ HT4.out)) rfl ?_
    refine ⟨by rw [hV.out];rfl,(((((aF HB1.out).trans jZ.out).aA (p:=⟨w.heap.size+1,0,none⟩) (Nat.le_succ _) _).aA (p:=⟨w.heap.size+1,1,none⟩) (Nat.le_succ _) _).aA (p:=⟨w.heap.size+1,2,none⟩) (Nat.le_succ _) _),?_⟩
    rw [hR2.out,hR.out,hok]
    exact (bK (by omega)).trans HR4.out
   ·have hok:ok=false:=by rw [hO.out,if_pos rfl,e4]
    simp only [nz,rD,rE,dQ] at e1 e2 e3 e4
    go_wp2_with fail
    refine (dD g st1 12 ya w4 HR4.out).mono ?_
    rintro e w5 ⟨rfl,dP,lS⟩
    have fV:=anc dP
    have uG:=anc lS
    have hs5:=dP.size
    have qW:=anc ((dP.block w.heap.size (by omega) q2).trans qU.out)
    have qX:=anc ((dP.block (w.heap.size+1) (by omega) (by omega)).trans HT4.out)
    have uH:=anc ((dP.block q hq1 (by omega)).trans HQ.out)
    clear dP lS a0 a1 a2 f0 f1 f2 t0 t1 t2 g0 g1 g2 k0 k1 k2 k3 k4 p4
    obtain ⟨⟨k0,k1,k2,k3,k4⟩,_,_,_,_,_⟩:=ay qW.out
    obtain ⟨⟨a0,a1,a2⟩,f0,f1,f2⟩:=bH uH.out
    obtain ⟨⟨t0,t1,t2⟩,g0,g1,g2⟩:=bH qX.out
    go_wp2_with fail
    refine ano (bP rfl rfl (bJ qX.out)) rfl ?_
    refine ⟨by rw [hV.out];rfl,((((((aF HB1.out).trans jZ.out).trans fV.out).aA (p:=⟨w.heap.size+1,0,none⟩) (Nat.le_succ _) _).aA (p:=⟨w.heap.size+1,1,none⟩) (Nat.le_succ _) _).aA (p:=⟨w.heap.size+1,2,none⟩) (Nat.le_succ _) _),?_⟩
    rw [hR2.out,hR.out,hok]
    exact (bK (by omega)).trans uG.out
  ·obtain ⟨z,hz⟩:∃ z,l[2]?=some z:=⟨_,anr (by rw [wF.out];omega)⟩
   obtain ⟨b',o',A3,c3,e9,La,z0,z1,z2,z3,z4,hc3,hK3⟩:=Kz.out.at (by omega) hz
   obtain ⟨rfl,rfl⟩:b=b'∧o=o':=by injection e9 with e9;injection e9 with e9 e10;exact ⟨e9,e10⟩
   have hzg:=getD_some hz
   have hV':V=⟨xs,ys,z.s⟩:=by rw [hV.out,if_pos rfl,hzg];rfl
   clear hV
   have hV:=anc hV'
   clear hV' e9 La hc3 hK3 hz
   obtain ⟨zk,zs,zn,zl,za⟩:=z
   simp only [T.k,T.s,T.n,T.kids,T.at_] at z0 z1 z2 z3 z4 hV
   rcases ui ys.toList with h | h | h | h | ⟨e1,e2,e3,e4⟩
   ·have hok:ok=true:=by rw [hO.out,if_neg (by decide),h];rfl
    simp only [nz] at h
    have hZ:=fun (p:Addr)(h1:p.block < w1.heap.size)(h2:p.block≠g)=>(jZ.out).cell (p:=p) h1 h2
    have z0':=(hZ ⟨b,o+2 * 5,none⟩ q3 q4).trans z0
    have z1':=(hZ ⟨b,o+2 * 5+1,none⟩ q3 q4).trans z1
    have z2':=(hZ ⟨b,o+2 * 5+2,none⟩ q3 q4).trans z2
    have z3':=(hZ ⟨b,o+2 * 5+3,none⟩ q3 q4).trans z3
    have VT:=(hZ ⟨b,o+2 * 5+4,none⟩ q3 q4).trans z4
    clear hZ z0 z1 z2 z3 z4
    have wS:=anc (fG (.mk zk zs zn zl za) A3 c3 g _ w4 HR4.out)
    simp only [T.val,T.k,T.s,T.n,T.kids,T.at_] at wS
    generalize zl.length=zm at *
    go_wp2_with fail
    refine (wS.out).mono ?_
    rintro e w6 ⟨rfl,kL,nN⟩
    have nU:=anc kL
    have wU:=anc nN
    have hs6:=kL.size
    have wV:=anc ((kL.block (w.heap.size+1) (by omega) (by omega)).trans HT4.out)
    have A8:=anc ((kL.block q (by omega) (by omega)).trans HQ.out)
    clear kL nN a0 a1 a2 f0 f1 f2 t0 t1 t2 g0 g1 g2 k0 k1 k2 k3 k4
    obtain ⟨⟨a0,a1,a2⟩,f0,f1,f2⟩:=bH A8.out
    obtain ⟨⟨t0,t1,t2⟩,g0,g1,g2⟩:=bH wV.out
    go_wp2_with fail
    refine ano (bP rfl rfl (bJ ((ann _ ⟨q,2,none⟩ _ _ (by show w.heap.size+1≠q;omega)).trans wV.out))) rfl ?_
    refine ⟨by rw [hV.out],(((((((aF HB1.out).trans jZ.out).trans nU.out).aA (p:=⟨q,2,none⟩) (by show w.heap.size≤q;omega) (.string zs)).aA (p:=⟨w.heap.size+1,0,none⟩) (Nat.le_succ _) _).aA (p:=⟨w.heap.size+1,1,none⟩) (Nat.le_succ _) _).aA (p:=⟨w.heap.size+1,2,none⟩) (Nat.le_succ _) _),?_⟩
    rw [hR2.out]
    first | rw [if_pos rfl] | rw [if_pos trivial]
    rw [hR.out,hok,hzg]
    exact (bK (by omega)).trans ((ann _ ⟨q,2,none⟩ _ _ (by show g≠q;omega)).trans wU.out)
   ·have hok:ok=true:=by rw [hO.out,if_neg (by decide),h];rfl
    simp only [rD] at h
    have hZ:=fun (p:Addr)(h1:p.block < w1.heap.size)(h2:p.block≠g)=>(jZ.out).cell (p:=p) h1 h2
    have z0':=(hZ ⟨b,o+2 * 5,none⟩ q3 q4).trans z0
    have z1':=(hZ ⟨b,o+2 * 5+1,none⟩ q3 q4).trans z1
    have z2':=(hZ ⟨b,o+2 * 5+2,none⟩ q3 q4).trans z2
    have z3':=(hZ ⟨b,o+2 * 5+3,none⟩ q3 q4).trans z3
    have VT:=(hZ ⟨b,o+2 * 5+4,none⟩ q3 q4).trans z4
    clear hZ z0 z1 z2 z3 z4
    have wS:=anc (fG (.mk zk zs zn zl za) A3 c3 g _ w4 HR4.out)
    simp only [T.val,T.k,T.s,T.n,T.kids,T.at_] at wS
    generalize zl.length=zm at *
    go_wp2_with fail
    refine (wS.out).mono ?_
    rintro e w6 ⟨rfl,kL,nN⟩
    have nU:=anc kL
    have wU:=anc nN
    have hs6:=kL.size
    have wV:=anc ((kL.block (w.heap.size+1) (by omega) (by omega)).trans HT4.out)
    have A8:=anc ((kL.block q (by omega) (by omega)).trans HQ.out)
    clear kL nN a0 a1 a2 f0 f1 f2 t0 t1 t2 g0 g1 g2 k0 k1 k2 k3 k4
    obtain ⟨⟨a0,a1,a2⟩,f0,f1,f2⟩:=bH A8.out
    obtain ⟨⟨t0,t1,t2⟩,g0,g1,g2⟩:=bH wV.out
    go_wp2_with fail
    refine ano (bP rfl rfl (bJ ((ann _ ⟨q,2,none⟩ _ _ (by show w.heap.size+1≠q;omega)).trans wV.out))) rfl ?_
    refine ⟨by rw [hV.out],(((((((aF HB1.out).trans jZ.out).trans nU.out).aA (p:=⟨q,2,none⟩) (by show w.heap.size≤q;omega) (.string zs)).aA (p:=⟨w.heap.size+1,0,none⟩) (Nat.le_succ _) _).aA (p:=⟨w.heap.size+1,1,none⟩) (Nat.le_succ _) _).aA (p:=⟨w.heap.size+1,2,none⟩) (Nat.le_succ _) _),?_⟩
    rw [hR2.out]
    first | rw [if_pos rfl] | rw [if_pos trivial]
    rw [hR.out,hok,hzg]
    exact (bK (by omega)).trans ((ann _ ⟨q,2,none⟩ _ _ (by show g≠q;omega)).trans wU.out)
   ·have hok:ok=true:=by rw [hO.out,if_neg (by decide),h];rfl
    simp only [rE] at h
    have hZ:=fun (p:Addr)(h1:p.block < w1.heap.size)(h2:p.block≠g)=>(jZ.out).cell (p:=p) h1 h2
    have z0':=(hZ ⟨b,o+2 * 5,none⟩ q3 q4).trans z0
    have z1':=(hZ ⟨b,o+2 * 5+1,none⟩ q3 q4).trans z1
    have z2':=(hZ ⟨b,o+2 * 5+2,none⟩ q3 q4).trans z2
    have z3':=(hZ ⟨b,o+2 * 5+3,none⟩ q3 q4).trans z3
    have VT:=(hZ ⟨b,o+2 * 5+4,none⟩ q3 q4).trans z4
    clear hZ z0 z1 z2 z3 z4
    have wS:=anc (fG (.mk zk zs zn zl za) A3 c3 g _ w4 HR4.out)
    simp only [T.val,T.k,T.s,T.n,T.kids,T.at_] at wS
    generalize zl.length=zm at *
    go_wp2_with fail
    refine (wS.out).mono ?_
    rintro e w6 ⟨rfl,kL,nN⟩
    have nU:=anc kL
    have wU:=anc nN
    have hs6:=kL.size
    have wV:=anc ((kL.block (w.heap.size+1) (by omega) (by omega)).trans HT4.out)
    have A8:=anc ((kL.block q (by omega) (by omega)).trans HQ.out)
    clear kL nN a0 a1 a2 f0 f1 f2 t0 t1 t2 g0 g1 g2 k0 k1 k2 k3 k4
    obtain ⟨⟨a0,a1,a2⟩,f0,f1,f2⟩:=bH A8.out
    obtain ⟨⟨t0,t1,t2⟩,g0,g1,g2⟩:=bH wV.out
    go_wp2_with fail
    refine ano (bP rfl rfl (bJ ((ann _ ⟨q,2,none⟩ _ _ (by show w.heap.size+1≠q;omega)).trans wV.out))) rfl ?_
    refine ⟨by rw [hV.out],(((((((aF HB1.out).trans jZ.out).trans nU.out).aA (p:=⟨q,2,none⟩) (by show w.heap.size≤q;omega) (.string zs)).aA (p:=⟨w.heap.size+1,0,none⟩) (Nat.le_succ _) _).aA (p:=⟨w.heap.size+1,1,none⟩) (Nat.le_succ _) _).aA (p:=⟨w.heap.size+1,2,none⟩) (Nat.le_succ _) _),?_⟩
    rw [hR2.out]
    first | rw [if_pos rfl] | rw [if_pos trivial]
    rw [hR.out,hok,hzg]
    exact (bK (by omega)).trans ((ann _ ⟨q,2,none⟩ _ _ (by show g≠q;omega)).trans wU.out)
   ·have hok:ok=false:=by rw [hO.out,if_neg (by decide),h];rfl
    simp only [dQ] at h
    go_wp2_with fail
    refine (dD g st1 12 ya w4 HR4.out).mono ?_
    rintro e w5 ⟨rfl,dP,lS⟩
    have fV:=anc dP
    have uG:=anc lS
    have hs5:=dP.size
    have qW:=anc ((dP.block w.heap.size (by omega) q2).trans qU.out)
    have qX:=anc ((dP.block (w.heap.size+1) (by omega) (by omega)).trans HT4.out)
    have uH:=anc ((dP.block q hq1 (by omega)).trans HQ.out)
    clear dP lS a0 a1 a2 f0 f1 f2 t0 t1 t2 g0 g1 g2 k0 k1 k2 k3 k4 p4
    obtain ⟨⟨k0,k1,k2,k3,k4⟩,_,_,_,_,_⟩:=ay qW.out
    obtain ⟨⟨a0,a1,a2⟩,f0,f1,f2⟩:=bH uH.out
    obtain ⟨⟨t0,t1,t2⟩,g0,g1,g2⟩:=bH qX.out
    have hZ:=fun (p:Addr)(h1:p.block < w1.heap.size)(h2:p.block≠g)=>((jZ.out.trans fV.out)).cell (p:=p) h1 h2
    have z0':=(hZ ⟨b,o+2 * 5,none⟩ q3 q4).trans z0
    have z1':=(hZ ⟨b,o+2 * 5+1,none⟩ q3 q4).trans z1
    have z2':=(hZ ⟨b,o+2 * 5+2,none⟩ q3 q4).trans z2
    have z3':=(hZ ⟨b,o+2 * 5+3,none⟩ q3 q4).trans z3
    have VT:=(hZ ⟨b,o+2 * 5+4,none⟩ q3 q4).trans z4
    clear hZ z0 z1 z2 z3 z4
    have wS:=anc (fG (.mk zk zs zn zl za) A3 c3 g _ w5 uG.out)
    simp only [T.val,T.k,T.s,T.n,T.kids,T.at_] at wS
    generalize zl.length=zm at *
    go_wp2_with fail
    refine (wS.out).mono ?_
    rintro e w6 ⟨rfl,kL,nN⟩
    have nU:=anc kL
    have wU:=anc nN
    have hs6:=kL.size
    have wV:=anc ((kL.block (w.heap.size+1) (by omega) (by omega)).trans qX.out)
    have A8:=anc ((kL.block q (by omega) (by omega)).trans uH.out)
    clear kL nN a0 a1 a2 f0 f1 f2 t0 t1 t2 g0 g1 g2 k0 k1 k2 k3 k4
    obtain ⟨⟨a0,a1,a2⟩,f0,f1,f2⟩:=bH A8.out
    obtain ⟨⟨t0,t1,t2⟩,g0,g1,g2⟩:=bH wV.out
    go_wp2_with fail
    refine ano (bP rfl rfl (bJ ((ann _ ⟨q,2,none⟩ _ _ (by show w.heap.size+1≠q;omega)).trans wV.out))) rfl ?_
    refine ⟨by rw [hV.out],((((((((aF HB1.out).trans jZ.out).trans fV.out).trans nU.out).aA (p:=⟨q,2,none⟩) (by show w.heap.size≤q;omega) (.string zs)).aA (p:=⟨w.heap.size+1,0,none⟩) (Nat.le_succ _) _).aA (p:=⟨w.heap.size+1,1,none⟩) (Nat.le_succ _) _).aA (p:=⟨w.heap.size+1,2,none⟩) (Nat.le_succ _) _),?_⟩
    rw [hR2.out]
    first | rw [if_pos rfl] | rw [if_pos trivial]
    rw [hR.out,hok,hzg]
    exact (bK (by omega)).trans ((ann _ ⟨q,2,none⟩ _ _ (by show g≠q;omega)).trans wU.out)
   ·have hok:ok=false:=by rw [hO.out,if_neg (by decide),e1,e2,e3];rfl
    simp only [nz,rD,rE,dQ] at e1 e2 e3 e4
    go_wp2_with fail
    refine (dD g st1 12 ya w4 HR4.out).mono ?_
    rintro e w5 ⟨rfl,dP,lS⟩
    have fV:=anc dP
    have uG:=anc lS
    have hs5:=dP.size
    have qW:=anc ((dP.block w.heap.size (by omega) q2).trans qU.out)
    have qX:=anc ((dP.block (w.heap.size+1) (by omega) (by omega)).trans HT4.out)
    have uH:=anc ((dP.block q hq1 (by omega)).trans HQ.out)
    clear dP lS a0 a1 a2 f0 f1 f2 t0 t1 t2 g0 g1 g2 k0 k1 k2 k3 k4 p4
    obtain ⟨⟨k0,k1,k2,k3,k4⟩,_,_,_,_,_⟩:=ay qW.out
    obtain ⟨⟨a0,a1,a2⟩,f0,f1,f2⟩:=bH uH.out
    obtain ⟨⟨t0,t1,t2⟩,g0,g1,g2⟩:=bH qX.out
    have hZ:=fun (p:Addr)(h1:p.block < w1.heap.size)(h2:p.block≠g)=>((jZ.out.trans fV.out)).cell (p:=p) h1 h2
    have z0':=(hZ ⟨b,o+2 * 5,none⟩ q3 q4).trans z0
    have z1':=(hZ ⟨b,o+2 * 5+1,none⟩ q3 q4).trans z1
    have z2':=(hZ ⟨b,o+2 * 5+2,none⟩ q3 q4).trans z2
    have z3':=(hZ ⟨b,o+2 * 5+3,none⟩ q3 q4).trans z3
    have VT:=(hZ ⟨b,o+2 * 5+4,none⟩ q3 q4).trans z4
    clear hZ z0 z1 z2 z3 z4
    have wS:=anc (fG (.mk zk zs zn zl za) A3 c3 g _ w5 uG.out)
    simp only [T.val,T.k,T.s,T.n,T.kids,T.at_] at wS
    generalize zl.length=zm at *
    go_wp2_with fail
    refine (wS.out).mono ?_
    rintro e w6 ⟨rfl,kL,nN⟩
    have nU:=anc kL
    have wU:=anc nN
    have hs6:=kL.size
    have wV:=anc ((kL.block (w.heap.size+1) (by omega) (by omega)).trans qX.out)
    have A8:=anc ((kL.block q (by omega) (by omega)).trans uH.out)
    clear kL nN a0 a1 a2 f0 f1 f2 t0 t1 t2 g0 g1 g2 k0 k1 k2 k3 k4
    obtain ⟨⟨a0,a1,a2⟩,f0,f1,f2⟩:=bH A8.out
    obtain ⟨⟨t0,t1,t2⟩,g0,g1,g2⟩:=bH wV.out
    go_wp2_with fail
    refine ano (bP rfl rfl (bJ ((ann _ ⟨q,2,none⟩ _ _ (by show w.heap.size+1≠q;omega)).trans wV.out))) rfl ?_
    refine ⟨by rw [hV.out],((((((((aF HB1.out).trans jZ.out).trans fV.out).trans nU.out).aA (p:=⟨q,2,none⟩) (by show w.heap.size≤q;omega) (.string zs)).aA (p:=⟨w.heap.size+1,0,none⟩) (Nat.le_succ _) _).aA (p:=⟨w.heap.size+1,1,none⟩) (Nat.le_succ _) _).aA (p:=⟨w.heap.size+1,2,none⟩) (Nat.le_succ _) _),?_⟩
    rw [hR2.out]
    first | rw [if_pos rfl] | rw [if_pos trivial]
    rw [hR.out,hok,hzg]
    exact (bK (by omega)).trans ((ann _ ⟨q,2,none⟩ _ _ (by show g≠q;omega)).trans wU.out)
 ·simp only [ane,ang,anf]
  go_simp
  have hSA:=(Only.refl g w1).drew.alloc (.cells #[.string ⟨#[]⟩,.string ⟨#[]⟩,.string ⟨#[]⟩] 46)
  refine hK.out _ _ hSA (fun hHeld=>?_)
  clear hK K
  refine wpAnyH_ready (rs:=[5]) (by kernel_rfl) (by simp) ?_
  refine AllReadyH.cons rfl (fun K hK=>?_) AllReadyH.nil
  simp only [ane,ang,anf]
  go_simp
  refine (Si.out (w1.drew.alloc (.cells #[.string ⟨#[]⟩,.string ⟨#[]⟩,.string ⟨#[]⟩] 46)) (show qo (w1.drew.alloc (.cells #[.string ⟨#[]⟩,.string ⟨#[]⟩,.string ⟨#[]⟩] 46)) g st from HR1.out.kept ((anl _ _).drew.alloc (ank _) _))).mono ?_
  rintro e w3 ⟨rfl,hod,hr3⟩
  go_wp2_with fail
  have ho3:=hSA.trans hod
  refine hK.out _ _ ho3 (fun hHeld=>?_)
  clear hK K
  have hz3:w3.heap[w1.heap.size]?=some (.cells #[.string ⟨#[]⟩,.string ⟨#[]⟩,.string ⟨#[]⟩] 46 (0,0)):=(hod.block w1.heap.size (by simp) (by omega)).trans (anm w1.drew _)
  obtain ⟨⟨a0,a1,a2⟩,f0,f1,f2⟩:=bH hz3
  have hs3:w1.heap.size < w3.heap.size:=(Array.getElem?_eq_some_iff.1 hz3).1
  refine wpAnyH_take (i:=11) (v:=.agg #[.string xs,.string ys,.string ⟨#[]⟩]) rfl (by kernel_rfl) (by kernel_rfl) (by kernel_rfl) (fun _ _ _ h=>h) (Or.inl ⟨by rfl,fun w1' hSw=>by (go_simp)⟩) (by assumption) ?_
  simp only [ane,ang,anf,Act.put,anh,ani,anj]
  refine wpAnyH_ready (rs:=[13]) (by kernel_rfl) (by simp) ?_
  refine AllReadyH.cons rfl (fun K hK=>?_) AllReadyH.nil
  simp only [ane,ang,anf]
  go_simp
  have hSC:=((ho3.aA (p:=⟨w1.heap.size,0,none⟩) (ank _) (.string xs)).aA (p:=⟨w1.heap.size,1,none⟩) (ank _) (.string ys)).aA (p:=⟨w1.heap.size,2,none⟩) (ank _) (.string ⟨#[]⟩)
  refine hK.out _ _ hSC (fun hHeld=>?_)
  clear hK K
  refine wpAnyH_done (by kernel_rfl) ?_ _
  obtain ⟨w4,wH⟩:∃ w4,w4=BM w3 w1.heap.size (.string xs) (.string ys) (.string ⟨#[]⟩):=⟨_,rfl⟩
  obtain ⟨q,eq⟩:∃ q,q=w1.heap.size:=⟨_,rfl⟩
  skip
  have hq:q < w4.heap.size∧w1.heap.size≤q:=by rw [wH,eq];exact ⟨by rw [KZ];exact hs3,ank _⟩
  have hQ:w4.heap[q]?=some (.cells #[.string xs,.string ys,.string ⟨#[]⟩] 46 (0,0)):=by rw [wH,eq];exact bJ hz3
  have hO4:Only g w1 w4:=by rw [wH];exact hSC
  have VS:qo w4 g st1:=by rw [wH];exact (bK (by omega)).trans hr3
  clear a0 a1 a2 f0 f1 f2
  unfold BM at wH
  rw [← wH,← eq]
  have HQ:=anc hQ
  have jZ:=anc hO4
  have HR4:=anc VS
  have hq1:=hq.1
  have hq2:=hq.2
  have hs4:=hO4.size
  have qU:=anc ((hO4.block w.heap.size q1 q2).trans gU.out)
  have HT4:=anc ((hO4.block (w.heap.size+1) hs1 (by omega)).trans HT1.out)
  have yG:=anc ((hO4.cell (p:=⟨b,o+5+4,none⟩) q3 q4).trans p4)
  clear hQ hO4 VS hq wH eq k0 k1 k2 k3 k4 m0 m1 m2 m3 m4 p0 p1 p2 p3 p4 Si HW1 HP
  have p4:=yG.out
  obtain ⟨⟨k0,k1,k2,k3,k4⟩,_,_,_,_,_⟩:=ay qU.out
  obtain ⟨⟨a0,a1,a2⟩,f0,f1,f2⟩:=bH HQ.out
  obtain ⟨⟨t0,t1,t2⟩,g0,g1,g2⟩:=bH HT4.out
  rcases hn with rfl | rfl
  ·rcases ui ys.toList with h | h | h | h | ⟨e1,e2,e3,e4⟩
   ·have hok:ok=false:=by rw [hO.out,if_pos rfl,h];rfl
    simp only [nz] at h
    go_wp2_with fail
    refine (dD g st1 12 ya w4 HR4.out).mono ?_
    rintro e w5 ⟨rfl,dP,lS⟩
    have fV:=anc dP
    have uG:=anc lS
    have hs5:=dP.size
    have qW:=anc ((dP.block w.heap.size (by omega) q2).trans qU.out)
    have qX:=anc ((dP.block (w.heap.size+1) (by omega) (by omega)).trans HT4.out)
    have uH:=anc ((dP.block q hq1 (by omega)).trans HQ.out)
    clear dP lS a0 a1 a2 f0 f1 f2 t0 t1 t2 g0 g1 g2 k0 k1 k2 k3 k4 p4
    obtain ⟨⟨k0,k1,k2,k3,k4⟩,_,_,_,_,_⟩:=ay qW.out
    obtain ⟨⟨a0,a1,a2⟩,f0,f1,f2⟩:=bH uH.out
    obtain ⟨⟨t0,t1,t2⟩,g0,g1,g2⟩:=bH qX.out
    go_wp2_with fail
    refine ano (bP rfl rfl (bJ qX.out)) rfl ?_
    refine ⟨by rw [hV.out];rfl,((((((aF HB1.out).trans jZ.out).trans fV.out).aA (p:=⟨w.heap.size+1,0,none⟩) (Nat.le_succ _) _).aA (p:=⟨w.heap.size+1,1,none⟩) (Nat.le_succ _) _).aA (p:=⟨w.heap.size+1,2,none⟩) (Nat.le_succ _) _),?_⟩
    rw [hR2.out,hR.out,hok]
    exact (bK (by omega)).trans uG.out
   ·have hok:ok=false:=by rw [hO.out,if_pos rfl,h];rfl
    simp only [rD] at h
    go_wp2_with fail
    refine (dD g st1 12 ya w4 HR4.out).mono ?_
    rintro e w5 ⟨rfl,dP,lS⟩
    have fV:=anc dP
    have uG:=anc lS
    have hs5:=dP.size
    have qW:=anc ((dP.block w.heap.size (by omega) q2).trans qU.out)
    have qX:=anc ((dP.block (w.heap.size+1) (by omega) (by omega)).trans HT4.out)
    have uH:=anc ((dP.block q hq1 (by omega)).trans HQ.out)
    clear dP lS a0 a1 a2 f0 f1 f2 t0 t1 t2 g0 g1 g2 k0 k1 k2 k3 k4 p4
    obtain ⟨⟨k0,k1,k2,k3,k4⟩,_,_,_,_,_⟩:=ay qW.out
    obtain ⟨⟨a0,a1,a2⟩,f0,f1,f2⟩:=bH uH.out
    obtain ⟨⟨t0,t1,t2⟩,g0,g1,g2⟩:=bH qX.out
    go_wp2_with fail
    refine ano (bP rfl rfl (bJ qX.out)) rfl ?_
    refine ⟨by rw [hV.out];rfl,((((((aF HB1.out).trans jZ.out).trans fV.out).aA (p:=⟨w.heap.size+1,0,none⟩) (Nat.le_succ _) _).aA (p:=⟨w.heap.size+1,1,none⟩) (Nat.le_succ _) _).aA (p:=⟨w.heap.size+1,2,none⟩) (Nat.le_succ _) _),?_⟩
    rw [hR2.out,hR.out,hok]
    exact (bK (by omega)).trans uG.out
   ·have hok:ok=false:=by rw [hO.out,if_pos rfl,h];rfl
    simp only [rE] at h
    go_wp2_with fail
    refine (dD g st1 12 ya w4 HR4.out).mono ?_
    rintro e w5 ⟨rfl,dP,lS⟩
    have fV:=anc dP
    have uG:=anc lS
    have hs5:=dP.size
    have qW:=anc ((dP.block w.heap.size (by omega) q2).trans qU.out)
    have qX:=anc ((dP.block (w.heap.size+1) (by omega) (by omega)).trans HT4.out)
    have uH:=anc ((dP.block q hq1 (by omega)).trans HQ.out)
    clear dP lS a0 a1 a2 f0 f1 f2 t0 t1 t2 g0 g1 g2 k0 k1 k2 k3 k4 p4
    obtain ⟨⟨k0,k1,k2,k3,k4⟩,_,_,_,_,_⟩:=ay qW.out
    obtain ⟨⟨a0,a1,a2⟩,f0,f1,f2⟩:=bH uH.out
    obtain ⟨⟨t0,t1,t2⟩,g0,g1,g2⟩:=bH qX.out
    go_wp2_with fail
    refine ano (bP rfl rfl (bJ qX.out)) rfl ?_
    refine ⟨by rw [hV.out];rfl,((((((aF HB1.out).trans jZ.out).trans fV.out).aA (p:=⟨w.heap.size+1,0,none⟩) (Nat.le_succ _) _).aA (p:=⟨w.heap.size+1,1,none⟩) (Nat.le_succ _) _).aA (p:=⟨w.heap.size+1,2,none⟩) (Nat.le_succ _) _),?_⟩
    rw [hR2.out,hR.out,hok]
    exact (bK (by omega)).trans uG.out
   ·have hok:ok=true:=by rw [hO.out,if_pos rfl,h];rfl
    simp only [dQ] at h
    go_wp2_with fail
    refine ano (bP rfl rfl (bJ HT4.out)) rfl ?_
    refine ⟨by rw [hV.out];rfl,(((((aF HB1.out).trans jZ.out).aA (p:=⟨w.heap.size+1,0,none⟩) (Nat.le_succ _) _).aA (p:=⟨w.heap.size+1,1,none⟩) (Nat.le_succ _) _).aA (p:=⟨w.heap.size+1,2,none⟩) (Nat.le_succ _) _),?_⟩
    rw [hR2.out,hR.out,hok]
    exact (bK (by omega)).trans HR4.out
   ·have hok:ok=false:=by rw [hO.out,if_pos rfl,e4]
    simp only [nz,rD,rE,dQ] at e1 e2 e3 e4
    go_wp2_with fail
    refine (dD g st1 12 ya w4 HR4.out).mono ?_
    rintro e w5 ⟨rfl,dP,lS⟩
    have fV:=anc dP
    have uG:=anc lS
    have hs5:=dP.size
    have qW:=anc ((dP.block w.heap.size (by omega) q2).trans qU.out)
    have qX:=anc ((dP.block (w.heap.size+1) (by omega) (by omega)).trans HT4.out)
    have uH:=anc ((dP.block q hq1 (by omega)).trans HQ.out)
    clear dP lS a0 a1 a2 f0 f1 f2 t0 t1 t2 g0 g1 g2 k0 k1 k2 k3 k4 p4
    obtain ⟨⟨k0,k1,k2,k3,k4⟩,_,_,_,_,_⟩:=ay qW.out
    obtain ⟨⟨a0,a1,a2⟩,f0,f1,f2⟩:=bH uH.out
    obtain ⟨⟨t0,t1,t2⟩,g0,g1,g2⟩:=bH qX.out
    go_wp2_with fail
    refine ano (bP rfl rfl (bJ qX.out)) rfl ?_
    refine ⟨by rw [hV.out];rfl,((((((aF HB1.out).trans jZ.out).trans fV.out).aA (p:=⟨w.heap.size+1,0,none⟩) (Nat.le_succ _) _).aA (p:=⟨w.heap.size+1,1,none⟩) (Nat.le_succ _) _).aA (p:=⟨w.heap.size+1,2,none⟩) (Nat.le_succ _) _),?_⟩
    rw [hR2.out,hR.out,hok]
    exact (bK (by omega)).trans uG.out
  ·obtain ⟨z,hz⟩:∃ z,l[2]?=some z:=⟨_,anr (by rw [wF.out];omega)⟩
   obtain ⟨b',o',A3,c3,e9,La,z0,z1,z2,z3,z4,hc3,hK3⟩:=Kz.out.at (by omega) hz
   obtain ⟨rfl,rfl⟩:b=b'∧o=o':=by injection e9 with e9;injection e9 with e9 e10;exact ⟨e9,e10⟩
   have hzg:=getD_some hz
   have hV':V=⟨xs,ys,z.s⟩:=by rw [hV.out,if_pos rfl,hzg];rfl
   clear hV
   have hV:=anc hV'
   clear hV' e9 La hc3 hK3 hz
   obtain ⟨zk,zs,zn,zl,za⟩:=z
   simp only [T.k,T.s,T.n,T.kids,T.at_] at z0 z1 z2 z3 z4 hV
   rcases ui ys.toList with h | h | h | h | ⟨e1,e2,e3,e4⟩
   ·have hok:ok=true:=by rw [hO.out,if_neg (by decide),h];rfl
    simp only [nz] at h
    have hZ:=fun (p:Addr)(h1:p.block < w1.heap.size)(h2:p.block≠g)=>(jZ.out).cell (p:=p) h1 h2
    have z0':=(hZ ⟨b,o+2 * 5,none⟩ q3 q4).trans z0
    have z1':=(hZ ⟨b,o+2 * 5+1,none⟩ q3 q4).trans z1
    have z2':=(hZ ⟨b,o+2 * 5+2,none⟩ q3 q4).trans z2
    have z3':=(hZ ⟨b,o+2 * 5+3,none⟩ q3 q4).trans z3
    have VT:=(hZ ⟨b,o+2 * 5+4,none⟩ q3 q4).trans z4
    clear hZ z0 z1 z2 z3 z4
    have wS:=anc (fG (.mk zk zs zn zl za) A3 c3 g _ w4 HR4.out)
    simp only [T.val,T.k,T.s,T.n,T.kids,T.at_] at wS
    generalize zl.length=zm at *
    go_wp2_with fail
    refine (wS.out).mono ?_
    rintro e w6 ⟨rfl,kL,nN⟩
    have nU:=anc kL
    have wU:=anc nN
    have hs6:=kL.size
    have wV:=anc ((kL.block (w.heap.size+1) (by omega) (by omega)).trans HT4.out)
    have A8:=anc ((kL.block q (by omega) (by omega)).trans HQ.out)
    clear kL nN a0 a1 a2 f0 f1 f2 t0 t1 t2 g0 g1 g2 k0 k1 k2 k3 k4
    obtain ⟨⟨a0,a1,a2⟩,f0,f1,f2⟩:=bH A8.out
    obtain ⟨⟨t0,t1,t2⟩,g0,g1,g2⟩:=bH wV.out
    go_wp2_with fail
    refine ano (bP rfl rfl (bJ ((ann _ ⟨q,2,none⟩ _ _ (by show w.heap.size+1≠q;omega)).trans wV.out))) rfl ?_
    refine ⟨by rw [hV.out],(((((((aF HB1.out).trans jZ.out).trans nU.out).aA (p:=⟨q,2,none⟩) (by show w.heap.size≤q;omega) (.string zs)).aA (p:=⟨w.heap.size+1,0,none⟩) (Nat.le_succ _) _).aA (p:=⟨w.heap.size+1,1,none⟩) (Nat.le_succ _) _).aA (p:=⟨w.heap.size+1,2,none⟩) (Nat.le_succ _) _),?_⟩
    rw [hR2.out]
    first | rw [if_pos rfl] | rw [if_pos trivial]
    rw [hR.out,hok,hzg]
    exact (bK (by omega)).trans ((ann _ ⟨q,2,none⟩ _ _ (by show g≠q;omega)).trans wU.out)
   ·have hok:ok=true:=by rw [hO.out,if_neg (by decide),h];rfl
    simp only [rD] at h
    have hZ:=fun (p:Addr)(h1:p.block < w1.heap.size)(h2:p.block≠g)=>(jZ.out).cell (p:=p) h1 h2
    have z0':=(hZ ⟨b,o+2 * 5,none⟩ q3 q4).trans z0
    have z1':=(hZ ⟨b,o+2 * 5+1,none⟩ q3 q4).trans z1
    have z2':=(hZ ⟨b,o+2 * 5+2,none⟩ q3 q4).trans z2
    have z3':=(hZ ⟨b,o+2 * 5+3,none⟩ q3 q4).trans z3
    have VT:=(hZ ⟨b,o+2 * 5+4,none⟩ q3 q4).trans z4
    clear hZ z0 z1 z2 z3 z4
    have wS:=anc (fG (.mk zk zs zn zl za) A3 c3 g _ w4 HR4.out)
    simp only [T.val,T.k,T.s,T.n,T.kids,T.at_] at wS
    generalize zl.length=zm at *
    go_wp2_with fail
    refine (wS.out).mono ?_
    rintro e w6 ⟨rfl,kL,nN⟩
    have nU:=anc kL
    have wU:=anc nN
    have hs6:=kL.size
    have wV:=anc ((kL.block (w.heap.size+1) (by omega) (by omega)).trans HT4.out)
    have A8:=anc ((kL.block q (by omega) (by omega)).trans HQ.out)
    clear kL nN a0 a1 a2 f0 f1 f2 t0 t1 t2 g0 g1 g2 k0 k1 k2 k3 k4
    obtain ⟨⟨a0,a1,a2⟩,f0,f1,f2⟩:=bH A8.out
    obtain ⟨⟨t0,t1,t2⟩,g0,g1,g2⟩:=bH wV.out
    go_wp2_with fail
    refine ano (bP rfl rfl (bJ ((ann _ ⟨q,2,none⟩ _ _ (by show w.heap.size+1≠q;omega)).trans wV.out))) rfl ?_
    refine ⟨by rw [hV.out],(((((((aF HB1.out).trans jZ.out).trans nU.out).aA (p:=⟨q,2,none⟩) (by show w.heap.size≤q;omega) (.string zs)).aA (p:=⟨w.heap.size+1,0,none⟩) (Nat.le_succ _) _).aA (p:=⟨w.heap.size+1,1,none⟩) (Nat.le_succ _) _).aA (p:=⟨w.heap.size+1,2,none⟩) (Nat.le_succ _) _),?_⟩
    rw [hR2.out]
    first | rw [if_pos rfl] | rw [if_pos trivial]
    rw [hR.out,hok,hzg]
    exact (bK (by omega)).trans ((ann _ ⟨q,2,none⟩ _ _ (by show g≠q;omega)).trans wU.out)
   ·have hok:ok=true:=by rw [hO.out,if_neg (by decide),h];rfl
    simp only [rE] at h
    have hZ:=fun (p:Addr)(h1:p.block < w1.heap.size)(h2:p.block≠g)=>(jZ.out).cell (p:=p) h1 h2
    have z0':=(hZ ⟨b,o+2 * 5,none⟩ q3 q4).trans z0
    have z1':=(hZ ⟨b,o+2 * 5+1,none⟩ q3 q4).trans z1
    have z2':=(hZ ⟨b,o+2 * 5+2,none⟩ q3 q4).trans z2
    have z3':=(hZ ⟨b,o+2 * 5+3,none⟩ q3 q4).trans z3
    have VT:=(hZ ⟨b,o+2 * 5+4,none⟩ q3 q4).trans z4
    clear hZ z0 z1 z2 z3 z4
    have wS:=anc (fG (.mk zk zs zn zl za) A3 c3 g _ w4 HR4.out)
    simp only [T.val,T.k,T.s,T.n,T.kids,T.at_] at wS
    generalize zl.length=zm at *
    go_wp2_with fail
    refine (wS.out).mono ?_
    rintro e w6 ⟨rfl,kL,nN⟩
    have nU:=anc kL
    have wU:=anc nN
    have hs6:=kL.size
    have wV:=anc ((kL.block (w.heap.size+1) (by omega) (by omega)).trans HT4.out)
    have A8:=anc ((kL.block q (by omega) (by omega)).trans HQ.out)
    clear kL nN a0 a1 a2 f0 f1 f2 t0 t1 t2 g0 g1 g2 k0 k1 k2 k3 k4
    obtain ⟨⟨a0,a1,a2⟩,f0,f1,f2⟩:=bH A8.out
    obtain ⟨⟨t0,t1,t2⟩,g0,g1,g2⟩:=bH wV.out
    go_wp2_with fail
    refine ano (bP rfl rfl (bJ ((ann _ ⟨q,2,none⟩ _ _ (by show w.heap.size+1≠q;omega)).trans wV.out))) rfl ?_
    refine ⟨by rw [hV.out],(((((((aF HB1.out).trans jZ.out).trans nU.out).aA (p:=⟨q,2,none⟩) (by show w.heap.size≤q;omega) (.string zs)).aA (p:=⟨w.heap.size+1,0,none⟩) (Nat.le_succ _) _).aA (p:=⟨w.heap.size+1,1,none⟩) (Nat.le_succ _) _).aA (p:=⟨w.heap.size+1,2,none⟩) (Nat.le_succ _) _),?_⟩
    rw [hR2.out]
    first | rw [if_pos rfl] | rw [if_pos trivial]
    rw [hR.out,hok,hzg]
    exact (bK (by omega)).trans ((ann _ ⟨q,2,none⟩ _ _ (by show g≠q;omega)).trans wU.out)
   ·have hok:ok=false:=by rw [hO.out,if_neg (by decide),h];rfl
    simp only [dQ] at h
    go_wp2_with fail
    refine (dD g st1 12 ya w4 HR4.out).mono ?_
    rintro e w5 ⟨rfl,dP,lS⟩
    have fV:=anc dP
    have uG:=anc lS
    have hs5:=dP.size
    have qW:=anc ((dP.block w.heap.size (by omega) q2).trans qU.out)
    have qX:=anc ((dP.block (w.heap.size+1) (by omega) (by omega)).trans HT4.out)
    have uH:=anc ((dP.block q hq1 (by omega)).trans HQ.out)
    clear dP lS a0 a1 a2 f0 f1 f2 t0 t1 t2 g0 g1 g2 k0 k1 k2 k3 k4 p4
    obtain ⟨⟨k0,k1,k2,k3,k4⟩,_,_,_,_,_⟩:=ay qW.out
    obtain ⟨⟨a0,a1,a2⟩,f0,f1,f2⟩:=bH uH.out
    obtain ⟨⟨t0,t1,t2⟩,g0,g1,g2⟩:=bH qX.out
    have hZ:=fun (p:Addr)(h1:p.block < w1.heap.size)(h2:p.block≠g)=>((jZ.out.trans fV.out)).cell (p:=p) h1 h2
    have z0':=(hZ ⟨b,o+2 * 5,none⟩ q3 q4).trans z0
    have z1':=(hZ ⟨b,o+2 * 5+1,none⟩ q3 q4).trans z1
    have z2':=(hZ ⟨b,o+2 * 5+2,none⟩ q3 q4).trans z2
    have z3':=(hZ ⟨b,o+2 * 5+3,none⟩ q3 q4).trans z3
    have VT:=(hZ ⟨b,o+2 * 5+4,none⟩ q3 q4).trans z4
    clear hZ z0 z1 z2 z3 z4
    have wS:=anc (fG (.mk zk zs zn zl za) A3 c3 g _ w5 uG.out)
    simp only [T.val,T.k,T.s,T.n,T.kids,T.at_] at wS
    generalize zl.length=zm at *
    go_wp2_with fail
    refine (wS.out).mono ?_
    rintro e w6 ⟨rfl,kL,nN⟩
    have nU:=anc kL
    have wU:=anc nN
    have hs6:=kL.size
    have wV:=anc ((kL.block (w.heap.size+1) (by omega) (by omega)).trans qX.out)
    have A8:=anc ((kL.block q (by omega) (by omega)).trans uH.out)
    clear kL nN a0 a1 a2 f0 f1 f2 t0 t1 t2 g0 g1 g2 k0 k1 k2 k3 k4
    obtain ⟨⟨a0,a1,a2⟩,f0,f1,f2⟩:=bH A8.out
    obtain ⟨⟨t0,t1,t2⟩,g0,g1,g2⟩:=bH wV.out
    go_wp2_with fail
    refine ano (bP rfl rfl (bJ ((ann _ ⟨q,2,none⟩ _ _ (by show w.heap.size+1≠q;omega)).trans wV.out))) rfl ?_
    refine ⟨by rw [hV.out],((((((((aF HB1.out).trans jZ.out).trans fV.out).trans nU.out).aA (p:=⟨q,2,none⟩) (by show w.heap.size≤q;omega) (.string zs)).aA (p:=⟨w.heap.size+1,0,none⟩) (Nat.le_succ _) _).aA (p:=⟨w.heap.size+1,1,none⟩) (Nat.le_succ _) _).aA (p:=⟨w.heap.size+1,2,none⟩) (Nat.le_succ _) _),?_⟩
    rw [hR2.out]
    first | rw [if_pos rfl] | rw [if_pos trivial]
    rw [hR.out,hok,hzg]
    exact (bK (by omega)).trans ((ann _ ⟨q,2,none⟩ _ _ (by show g≠q;omega)).trans wU.out)
   ·have hok:ok=false:=by rw [hO.out,if_neg (by decide),e1,e2,e3];rfl
    simp only [nz,rD,rE,dQ] at e1 e2 e3 e4
    go_wp2_with fail
    refine (dD g st1 12 ya w4 HR4.out).mono ?_
    rintro e w5 ⟨rfl,dP,lS⟩
    have fV:=anc dP
    have uG:=anc lS
    have hs5:=dP.size
    have qW:=anc ((dP.block w.heap.size (by omega) q2).trans qU.out)
    have qX:=anc ((dP.block (w.heap.size+1) (by omega) (by omega)).trans HT4.out)
    have uH:=anc ((dP.block q hq1 (by omega)).trans HQ.out)
    clear dP lS a0 a1 a2 f0 f1 f2 t0 t1 t2 g0 g1 g2 k0 k1 k2 k3 k4 p4
    obtain ⟨⟨k0,k1,k2,k3,k4⟩,_,_,_,_,_⟩:=ay qW.out
    obtain ⟨⟨a0,a1,a2⟩,f0,f1,f2⟩:=bH uH.out
    obtain ⟨⟨t0,t1,t2⟩,g0,g1,g2⟩:=bH qX.out
    have hZ:=fun (p:Addr)(h1:p.block < w1.heap.size)(h2:p.block≠g)=>((jZ.out.trans fV.out)).cell (p:=p) h1 h2
    have z0':=(hZ ⟨b,o+2 * 5,none⟩ q3 q4).trans z0
    have z1':=(hZ ⟨b,o+2 * 5+1,none⟩ q3 q4).trans z1
    have z2':=(hZ ⟨b,o+2 * 5+2,none⟩ q3 q4).trans z2
    have z3':=(hZ ⟨b,o+2 * 5+3,none⟩ q3 q4).trans z3
    have VT:=(hZ ⟨b,o+2 * 5+4,none⟩ q3 q4).trans z4
    clear hZ z0 z1 z2 z3 z4
    have wS:=anc (fG (.mk zk zs zn zl za) A3 c3 g _ w5 uG.out)
    simp only [T.val,T.k,T.s,T.n,T.kids,T.at_] at wS
    generalize zl.length=zm at *
    go_wp2_with fail
    refine (wS.out).mono ?_
    rintro e w6 ⟨rfl,kL,nN⟩
    have nU:=anc kL
    have wU:=anc nN
    have hs6:=kL.size
    have wV:=anc ((kL.block (w.heap.size+1) (by omega) (by omega)).trans qX.out)
    have A8:=anc ((kL.block q (by omega) (by omega)).trans uH.out)
    clear kL nN a0 a1 a2 f0 f1 f2 t0 t1 t2 g0 g1 g2 k0 k1 k2 k3 k4
    obtain ⟨⟨a0,a1,a2⟩,f0,f1,f2⟩:=bH A8.out
    obtain ⟨⟨t0,t1,t2⟩,g0,g1,g2⟩:=bH wV.out
    go_wp2_with fail
    refine ano (bP rfl rfl (bJ ((ann _ ⟨q,2,none⟩ _ _ (by show w.heap.size+1≠q;omega)).trans wV.out))) rfl ?_
    refine ⟨by rw [hV.out],((((((((aF HB1.out).trans jZ.out).trans fV.out).trans nU.out).aA (p:=⟨q,2,none⟩) (by show w.heap.size≤q;omega) (.string zs)).aA (p:=⟨w.heap.size+1,0,none⟩) (Nat.le_succ _) _).aA (p:=⟨w.heap.size+1,1,none⟩) (Nat.le_succ _) _).aA (p:=⟨w.heap.size+1,2,none⟩) (Nat.le_succ _) _),?_⟩
    rw [hR2.out]
    first | rw [if_pos rfl] | rw [if_pos trivial]
    rw [hR.out,hok,hzg]
    exact (bK (by omega)).trans ((ann _ ⟨q,2,none⟩ _ _ (by show g≠q;omega)).trans wU.out)
def Ag.cs (g:Ag):List Value:=[.string g.nm,.string g.fn,.string g.vw]
def fB (l:List Ag):List Value:=l.flatMap Ag.cs
theorem EL (l:List Ag):(fB l).length=l.length * 3:=by
 induction l with
 | nil=>rfl
 | cons v l ih=>show ((Ag.cs v) ++ fB l).length=_;simp [ih,Ag.cs];omega
theorem wW (a b:List Ag):fB (a ++ b)=fB a ++ fB b:=by simp [fB]
theorem yP (v:Ag):fB [v]=Ag.cs v:=by simp [fB]
structure PA where
 ea:Option Addr
 ec:Nat
 ca:Option Addr
 cc:Nat
 la:Option Addr
 lc:Nat
 ra:Option Addr
 rc:Nat
 ga:Option Addr
 gc:Nat
 ka:Option Addr
 kc:Nat
def P.cs (p:P)(a:PA):List Value:=[.int .i64 p.k,.string p.nm,.slice a.ea p.ex.length a.ec,.slice a.ca p.cols.length a.cc,.slice a.la p.left.length a.lc,.slice a.ra p.right.length a.rc,.slice a.ga p.ag.length a.gc,.slice a.ka p.kids.length a.kc]
def P.val (p:P)(a:PA):Value:=.agg #[.int .i64 p.k,.string p.nm,.slice a.ea p.ex.length a.ec,.slice a.ca p.cols.length a.cc,.slice a.la p.left.length a.lc,.slice a.ra p.right.length a.rc,.slice a.ga p.ag.length a.gc,.slice a.ka p.kids.length a.kc]
structure lq (w:World)(S:Nat→Prop)(p:P)(a:PA):Prop where
 ex:gy w S a.ea p.ex
 cols:Lies w S a.ca (strs p.cols)
 left:Lies w S a.la (strs p.left)
 right:Lies w S a.ra (strs p.right)
 ag:Lies w S a.ga (fB p.ag)
 l1:p.ex.length≤9223372036854775807
 l2:p.cols.length≤9223372036854775807
 l3:p.left.length≤9223372036854775807∧p.left.length≤a.lc
 l4:p.right.length≤9223372036854775807∧p.right.length≤a.rc
 l5:p.ag.length≤9223372036854775807
theorem lq.kept {w w':World} {S:Nat→Prop} {p:P} {a:PA} (h:lq w S p a)(hw:∀ k,S k→w'.heap[k]?=w.heap[k]?):lq w' S p a :=
 ⟨h.ex.kept hw,h.cols.kept hw,h.left.kept hw,h.right.kept hw,h.ag.kept hw,h.l1,h.l2,h.l3,h.l4,h.l5⟩
theorem lq.mono {w:World} {S S':Nat→Prop} {p:P} {a:PA} (h:lq w S p a)(hS:∀ k,S k→S' k):lq w S' p a :=
 ⟨h.ex.mono hS,h.cols.mono hS,h.left.mono hS,h.right.mono hS,h.ag.mono hS,h.l1,h.l2,h.l3,h.l4,h.l5⟩
inductive yQ (w:World)(S:Nat→Prop):Option Addr→List P→Prop
 | nil (A:Option Addr):yQ w S A []
 | mk (b off:Nat)(l:List P)(hn:l.length≤9223372036854775807)(hb:S b)(F:Nat→PA)
    (h:∀ i p,l[i]?=some p→∀ j u,(p.cs (F i))[j]?=some u→w.cell? ⟨b,off+i * 8+j,none⟩=some u)
    (hp:∀ i p,l[i]?=some p→lq w S p (F i))
    (hk:∀ i p,l[i]?=some p→yQ w S (F i).ka p.kids):yQ w S (some ⟨b,off,none⟩) l
theorem yQ.kept {w w':World} {S:Nat→Prop} {A:Option Addr} {l:List P} (h:yQ w S A l)(hw:∀ k,S k→w'.heap[k]?=w.heap[k]?):yQ w' S A l:=by
 induction h with
 | nil A=>exact .nil A
 | mk b off l hn hlt F h hp hk ih =>
   exact .mk b off l hn hlt F (fun i p hi j u hj=>(anw (hw b hlt)).trans (h i p hi j u hj)) (fun i p hi=>(hp i p hi).kept hw) (fun i p hi=>ih i p hi)
theorem yQ.mono {w:World} {S S':Nat→Prop} {A:Option Addr} {l:List P} (h:yQ w S A l)(hS:∀ k,S k→S' k):yQ w S' A l:=by
 induction h with
 | nil A=>exact .nil A
 | mk b off l hn hlt F h hp hk ih=>exact .mk b off l hn (hS b hlt) F h (fun i p hi=>(hp i p hi).mono hS) (fun i p hi=>ih i p hi)
theorem yQ.len {w:World} {S:Nat→Prop} {A:Option Addr} {l:List P} (h:yQ w S A l):l.length≤9223372036854775807:=by
 cases h with
 | nil A=>simp
 | mk b off l hn hlt F h hp hk=>exact hn
structure jS (w:World)(S:Nat→Prop)(p:P)(a:PA):Prop where
 parts:lq w S p a
 kids:yQ w S a.ka p.kids
theorem jS.kept {w w':World} {S:Nat→Prop} {p:P} {a:PA} (h:jS w S p a)(hw:∀ k,S k→w'.heap[k]?=w.heap[k]?):jS w' S p a:=⟨h.parts.kept hw,h.kids.kept hw⟩
theorem jS.mono {w:World} {S S':Nat→Prop} {p:P} {a:PA} (h:jS w S p a)(hS:∀ k,S k→S' k):jS w S' p a:=⟨h.parts.mono hS,h.kids.mono hS⟩
theorem yQ.at {w:World} {S:Nat→Prop} {A:Option Addr} {l:List P} (h:yQ w S A l) {i:Nat} {p:P} (hx:l[i]?=some p) :
 ∃ b o a,A=some ⟨b,o,none⟩∧S b∧(∀ j u,(p.cs a)[j]?=some u→w.cell? ⟨b,o+i * 8+j,none⟩=some u)∧jS w S p a:=by
 cases h with
 | nil A=>simp at hx
 | mk b off l hn hlt F h hp hk=>exact ⟨b,off,F i,rfl,hlt,h i p hx,hp i p hx,hk i p hx⟩
abbrev QP:=P×PA
def QP.cs (x:QP):List Value:=x.1.cs x.2
def kM (l:List QP):List Value:=l.flatMap QP.cs
theorem yR (v:QP):kM [v]=QP.cs v:=by simp [kM]
theorem wX (a b:List QP):kM (a ++ b)=kM a ++ kM b:=by simp [kM]
theorem Pg (l:List QP):∀ (i:Nat)(v:QP),l[i]?=some v→∀ j u,(QP.cs v)[j]?=some u→(kM l)[i * 8+j]?=some u:=by
 induction l with
 | nil=>intro i v h;simp at h
 | cons x l ih =>
   intro i v h j u hj
   have e:kM (x :: l)=QP.cs x ++ kM l:=rfl
   have hl:∀ y:QP,(QP.cs y).length=8:=fun _=>rfl
   have hj8:j < 8:=by have:=(List.getElem?_eq_some_iff.1 hj).1;rw [hl] at this;exact this
   rw [e]
   cases i with
   | zero =>
     obtain rfl:x=v:=by simpa using h
     rw [Nat.zero_mul,Nat.zero_add,List.getElem?_append_left (by rw [hl];exact hj8)]
     exact hj
   | succ i =>
     rw [List.getElem?_append_right (by rw [hl];omega),hl,show (i+1) * 8+j - 8=i * 8+j by omega]
     exact ih i v (by simpa using h) j u hj
theorem Lc (l:List QP):∀ u ∈ kM l,u.oneCell'=true:=by
 intro u hu
 obtain ⟨v,_,hv⟩:=List.mem_flatMap.1 hu
 simp only [QP.cs,P.cs,List.mem_cons,List.not_mem_nil,or_false] at hv
 rcases hv with rfl | rfl | rfl | rfl | rfl | rfl | rfl | rfl <;> rfl
theorem EM {w:World} {base:Nat} {e:TypeId} {v:Value} {l:List QP} (h:w.ownsRow base e 8 v l.length (kM l))(hn:l.length≤9223372036854775807) {S:Nat→Prop} (hS:∀ g,base≤g→g < w.heap.size→S g)(hk:∀ x ∈ l,jS w S x.1 x.2) :
 ∃ A c,v=.slice A (l.map Prod.fst).length c∧(l.map Prod.fst).length≤c∧yQ w S A (l.map Prod.fst):=by
 obtain ⟨_,hcase⟩:=id h
 rcases hcase with ⟨rfl,h0⟩ | ⟨g,cap,cur,rfl,hg,hh,hc,hcap,hsz,htake⟩
 ·have e0:l=[]:=List.eq_nil_of_length_eq_zero h0
  subst e0
  exact ⟨none,0,rfl,ank _,.nil _⟩
 ·have hget:∀ i x,(l.map Prod.fst)[i]?=some x→∃ y:QP,l[i]?=some y∧y.1=x:=fun i x hx=>by
   rw [List.getElem?_map] at hx
   cases hl:l[i]? with
   | none=>rw [hl] at hx;cases hx
   | some y=>rw [hl] at hx;exact ⟨y,hl,by simpa using hx⟩
  refine ⟨some ⟨g,0,none⟩,cap,by rw [List.length_map],by rw [List.length_map];exact hc,.mk g 0 _ (by rw [List.length_map];exact hn) ?_ (fun i=>((l[i]?).map Prod.snd).getD ⟨none,0,none,0,none,0,none,0,none,0,none,0⟩) (fun i x hx j u hj=>?_) (fun i x hx=>?_) (fun i x hx=>?_)⟩
  ·refine hS g hg ?_
   rcases Nat.lt_or_ge g w.heap.size with hlt | hge
   ·exact hlt
   ·rw [Array.getElem?_eq_none hge] at hh;cases hh
  ·obtain ⟨y,hl,rfl⟩:=hget i x hx
   rw [hl] at hj
   have hi:i < l.length:=(List.getElem?_eq_some_iff.1 hl).1
   have hj8:j < 8:=by have:=(List.getElem?_eq_some_iff.1 hj).1;exact this
   rw [Nat.zero_add,h.cellAt _ (by omega)]
   exact Pg l i y hl j u hj
  ·obtain ⟨y,hl,rfl⟩:=hget i x hx
   simp only [hl,Option.map_some,Option.getD_some]
   exact (hk y (anq hl)).parts
  ·obtain ⟨y,hl,rfl⟩:=hget i x hx
   simp only [hl,Option.map_some,Option.getD_some]
   exact (hk y (anq hl)).kids
theorem IG {wr w3 w6:World} {v v':Value} {base:Nat} {ps:List QP} {x:QP}
 (hxk:∀ p ∈ ps,jS wr (fun k=>base≤k∧k < wr.heap.size∧v.ownBlock≠some k) p.1 p.2)
 (hx:jS w3 (fun k=>wr.heap.size≤k∧k < w3.heap.size) x.1 x.2)(hbase:base≤wr.heap.size)
 (h1:∀ k,base≤k→k < wr.heap.size→v.ownBlock≠some k→w6.heap[k]?=wr.heap[k]?)(h2:∀ k,wr.heap.size≤k→k < w3.heap.size→w6.heap[k]?=w3.heap[k]?)
 (hs:wr.heap.size≤w3.heap.size)(hs6:w3.heap.size≤w6.heap.size)(hv1:∀ k,v.ownBlock=some k→k < wr.heap.size)(hv:v'.ownBlock=v.ownBlock∨∃ n,v'.ownBlock=some n∧w3.heap.size≤n) :
 ∀ p ∈ ps ++ [x],jS w6 (fun k=>base≤k∧k < w6.heap.size∧v'.ownBlock≠some k) p.1 p.2:=by
 intro p hp
 rcases List.mem_append.1 hp with hp | hp
 ·refine ((hxk p hp).kept fun k hk=>h1 k hk.1 hk.2.1 hk.2.2).mono fun k hk=>⟨hk.1,by have:=hk.2.1;omega,?_⟩
  rcases hv with hv | ⟨n,hv,hn⟩
  ·rw [hv];exact hk.2.2
  ·rw [hv];intro e;have:=Option.some.inj e;have:=hk.2.1;omega
 ·obtain rfl:p=x:=by simpa using hp
  refine (hx.kept fun k hk=>h2 k hk.1 hk.2).mono fun k hk=>⟨by have:=hk.1;omega,by have:=hk.2;omega,?_⟩
  rcases hv with hv | ⟨n,hv,hn⟩
  ·rw [hv];intro e;have:=hv1 k e;have:=hk.1;omega
  ·rw [hv];intro e;have:=Option.some.inj e;have:=hk.2;omega
theorem fQ {w:World} {g k:Nat} {cs:Array Value} {u:Value} {t:TypeId} (h:w.heap[g]?=some (.cells cs t (0,0))):(w.setCell ⟨g,k,none⟩ u).heap[g]?=some (.cells (cs.set! k u) t (0,0)):=by
 show (w.heap.modify g _)[g]?=_
 rw [Array.getElem?_modify]
 simp [h]
def rO (w:World)(p:Nat)(x0 x1 x2 x3 x4 x5 x6 x7:Value):World:=(((((((w.setCell ⟨p,0,none⟩ x0).setCell ⟨p,1,none⟩ x1).setCell ⟨p,2,none⟩ x2).setCell ⟨p,3,none⟩ x3).setCell ⟨p,4,none⟩ x4).setCell ⟨p,5,none⟩ x5).setCell ⟨p,6,none⟩ x6).setCell ⟨p,7,none⟩ x7
theorem di {w:World} {p:Nat} {a b c d e f g h x0 x1 x2 x3 x4 x5 x6 x7:Value} {t:TypeId} (hb:w.heap[p]?=some (.cells #[a,b,c,d,e,f,g,h] t (0,0))):(rO w p x0 x1 x2 x3 x4 x5 x6 x7).heap[p]?=some (.cells #[x0,x1,x2,x3,x4,x5,x6,x7] t (0,0)):=by
 have h0:(w.setCell ⟨p,0,none⟩ x0).heap[p]?=some (.cells #[x0,b,c,d,e,f,g,h] t (0,0)):=by simpa using fQ (k:=0) (u:=x0) hb
 have h1:((w.setCell ⟨p,0,none⟩ x0).setCell ⟨p,1,none⟩ x1).heap[p]?=some (.cells #[x0,x1,c,d,e,f,g,h] t (0,0)):=by simpa using fQ (k:=1) (u:=x1) h0
 have h2:(((w.setCell ⟨p,0,none⟩ x0).setCell ⟨p,1,none⟩ x1).setCell ⟨p,2,none⟩ x2).heap[p]?=some (.cells #[x0,x1,x2,d,e,f,g,h] t (0,0)):=by simpa using fQ (k:=2) (u:=x2) h1
 have h3:((((w.setCell ⟨p,0,none⟩ x0).setCell ⟨p,1,none⟩ x1).setCell ⟨p,2,none⟩ x2).setCell ⟨p,3,none⟩ x3).heap[p]?=some (.cells #[x0,x1,x2,x3,e,f,g,h] t (0,0)):=by simpa using fQ (k:=3) (u:=x3) h2
 have h4:(((((w.setCell ⟨p,0,none⟩ x0).setCell ⟨p,1,none⟩ x1).setCell ⟨p,2,none⟩ x2).setCell ⟨p,3,none⟩ x3).setCell ⟨p,4,none⟩ x4).heap[p]?=some (.cells #[x0,x1,x2,x3,x4,f,g,h] t (0,0)):=by simpa using fQ (k:=4) (u:=x4) h3
 have h5:((((((w.setCell ⟨p,0,none⟩ x0).setCell ⟨p,1,none⟩ x1).setCell ⟨p,2,none⟩ x2).setCell ⟨p,3,none⟩ x3).setCell ⟨p,4,none⟩ x4).setCell ⟨p,5,none⟩ x5).heap[p]?=some (.cells #[x0,x1,x2,x3,x4,x5,g,h] t (0,0)):=by simpa using fQ (k:=5) (u:=x5) h4
 have h6:(((((((w.setCell ⟨p,0,none⟩ x0).setCell ⟨p,1,none⟩ x1).setCell ⟨p,2,none⟩ x2).setCell ⟨p,3,none⟩ x3).setCell ⟨p,4,none⟩ x4).setCell ⟨p,5,none⟩ x5).setCell ⟨p,6,none⟩ x6).heap[p]?=some (.cells #[x0,x1,x2,x3,x4,x5,x6,h] t (0,0)):=by simpa using fQ (k:=6) (u:=x6) h5
 have h7:((((((((w.setCell ⟨p,0,none⟩ x0).setCell ⟨p,1,none⟩ x1).setCell ⟨p,2,none⟩ x2).setCell ⟨p,3,none⟩ x3).setCell ⟨p,4,none⟩ x4).setCell ⟨p,5,none⟩ x5).setCell ⟨p,6,none⟩ x6).setCell ⟨p,7,none⟩ x7).heap[p]?=some (.cells #[x0,x1,x2,x3,x4,x5,x6,x7] t (0,0)):=by simpa using fQ (k:=7) (u:=x7) h6
 exact h7
theorem gz {w:World} {p k:Nat} {x0 x1 x2 x3 x4 x5 x6 x7:Value} (h:k≠p):(rO w p x0 x1 x2 x3 x4 x5 x6 x7).heap[k]?=w.heap[k]?:=by
 simp only [rO,World.setCell,Array.getElem?_modify]
 rw [if_neg (by omega),if_neg (by omega),if_neg (by omega),if_neg (by omega),if_neg (by omega),if_neg (by omega),if_neg (by omega),if_neg (by omega)]
theorem kC {w:World} {p:Nat} {x0 x1 x2 x3 x4 x5 x6 x7:Value}:(rO w p x0 x1 x2 x3 x4 x5 x6 x7).heap.size=w.heap.size:=by simp [rO,World.setCell]
theorem yS {w w':World} {g p:Nat} {x0 x1 x2 x3 x4 x5 x6 x7:Value} (h:Only g w w')(hp:w.heap.size≤p):Only g w (rO w' p x0 x1 x2 x3 x4 x5 x6 x7) :=
 (((((((h.aA (p:=⟨p,0,none⟩) hp x0).aA (p:=⟨p,1,none⟩) hp x1).aA (p:=⟨p,2,none⟩) hp x2).aA (p:=⟨p,3,none⟩) hp x3).aA (p:=⟨p,4,none⟩) hp x4).aA (p:=⟨p,5,none⟩) hp x5).aA (p:=⟨p,6,none⟩) hp x6).aA (p:=⟨p,7,none⟩) hp x7
theorem dE {w a:World} {B p:Nat} {x0 x1 x2 x3 x4 x5 x6 x7:Value} (h:Below B a w)(hp:B≤p):Below B a (rO w p x0 x1 x2 x3 x4 x5 x6 x7) :=
 (((((((h.setCell (p:=⟨p,0,none⟩) hp x0).setCell (p:=⟨p,1,none⟩) hp x1).setCell (p:=⟨p,2,none⟩) hp x2).setCell (p:=⟨p,3,none⟩) hp x3).setCell (p:=⟨p,4,none⟩) hp x4).setCell (p:=⟨p,5,none⟩) hp x5).setCell (p:=⟨p,6,none⟩) hp x6).setCell (p:=⟨p,7,none⟩) hp x7
structure C8 (w:World)(g:Nat)(x0 x1 x2 x3 x4 x5 x6 x7:Value):Prop where
 c0:w.cell? ⟨g,0,none⟩=some x0
 c1:w.cell? ⟨g,1,none⟩=some x1
 c2:w.cell? ⟨g,2,none⟩=some x2
 c3:w.cell? ⟨g,3,none⟩=some x3
 c4:w.cell? ⟨g,4,none⟩=some x4
 c5:w.cell? ⟨g,5,none⟩=some x5
 c6:w.cell? ⟨g,6,none⟩=some x6
 c7:w.cell? ⟨g,7,none⟩=some x7
 f0:w.frozen? ⟨g,0,none⟩=false
 f1:w.frozen? ⟨g,1,none⟩=false
 f2:w.frozen? ⟨g,2,none⟩=false
 f3:w.frozen? ⟨g,3,none⟩=false
 f4:w.frozen? ⟨g,4,none⟩=false
 f5:w.frozen? ⟨g,5,none⟩=false
 f6:w.frozen? ⟨g,6,none⟩=false
 f7:w.frozen? ⟨g,7,none⟩=false
theorem az {w:World} {g:Nat} {x0 x1 x2 x3 x4 x5 x6 x7:Value} {t:TypeId} (h:w.heap[g]?=some (.cells #[x0,x1,x2,x3,x4,x5,x6,x7] t (0,0))):C8 w g x0 x1 x2 x3 x4 x5 x6 x7:=by
 constructor <;> simp [World.cell?,World.frozen?,h]
theorem mi {fn:Func} {p:Tmp} (h:fn.results=#[.cell p 27]) {tmps:Array Value} {w:World} {g:Nat} {x0 x1 x2 x3 x4 x5 x6 x7:Value} {t:TypeId}
 (hp:tmps.getD p undef=.pointer (some ⟨g,0,none⟩))(hg:w.heap[g]?=some (.cells #[x0,x1,x2,x3,x4,x5,x6,x7] t (0,0))):(results fn tmps).run Tryz.prog w=.ok (.agg #[x0,x1,x2,x3,x4,x5,x6,x7]) w:=by
 have hp':tmps[p]?.getD undef=.pointer (some ⟨g,0,none⟩):=by simpa using hp
 have hl:=run_loadVar_row (P:=Tryz.prog) w g t 27 #[x0,x1,x2,x3,x4,x5,x6,x7] (0,0) _ hg Tryz.underlying27 rfl (by show _=some 8;kernel_rfl)
 simp [results,h,hp',asAddr,hl]
theorem EN:(Tryz.prog.info? 27).map (fun i=>(i.zero,i.size,i.bytes))=some (some (.agg #[.int .i64 0,.string ByteArray.empty,.slice none 0 0,.slice none 0 0,.slice none 0 0,.slice none 0 0,.slice none 0 0,.slice none 0 0]),8,168):=by kernel_rfl
abbrev wY:=List C×Int×ByteArray
def je (why:Int)(nm:ByteArray):wY:=([],why,nm)
def eG (l:List C):wY:=if l.length=0∨6 < l.length then je 23 ⟨#[]⟩ else (l,0,⟨#[]⟩)
def dR (dK:List C):List C→List (ByteArray×E)→wY
 | acc,[]=>eG acc
 | acc,(c,e) :: r=>if (ed dK e).2=0 then (if df acc c=true then je 21 c else dR dK (acc ++ [⟨c,(ed dK e).1⟩]) r) else je (ed dK e).2 ⟨#[]⟩
def Gi (l:List ByteArray)(s:ByteArray):Bool:=l.any fun x=>x.toList == s.toList
def ji (l:List C)(i:Int):C:=l.getD i.toNat ⟨⟨#[]⟩,0⟩
def wZ (a b:List C)(left right:List ByteArray)(n:Nat):Int×ByteArray :=
 if df a (left.getD n ⟨#[]⟩)=false then (20,left.getD n ⟨#[]⟩)
 else if df b (right.getD n ⟨#[]⟩)=false then (20,right.getD n ⟨#[]⟩)
 else if Gi (left.take n) (left.getD n ⟨#[]⟩)=true then (21,left.getD n ⟨#[]⟩)
 else if Gi (right.take n) (right.getD n ⟨#[]⟩)=true then (21,right.getD n ⟨#[]⟩)
 else if (ji a (dL a (left.getD n ⟨#[]⟩))).k=(ji b (dL b (right.getD n ⟨#[]⟩))).k then (0,⟨#[]⟩) else (22,left.getD n ⟨#[]⟩)
def lu (a b:List C)(left right:List ByteArray):Nat→Nat→Int×ByteArray
 | _,0=>(0,⟨#[]⟩)
 | n,m+1=>if (wZ a b left right n).1=0 then lu a b left right (n+1) m else wZ a b left right n
def jO (right:List ByteArray):List C→List C→wY
 | acc,[]=>eG acc
 | acc,c :: r=>if Gi right c.nm=true then jO right acc r else if df acc c.nm=true then je 21 c.nm else jO right (acc ++ [c]) r
def uQ (a b:List C)(left right:List ByteArray):wY :=
 if left.length≠right.length∨left.length=0 then je 23 ⟨#[]⟩
 else if (lu a b left right 0 left.length).1=0 then jO right a b else ([],lu a b left right 0 left.length)
def iy (a:List C):List C→List C→wY
 | x :: l,y :: r=>if x.k=y.k then iy a l r else je 22 x.nm
 | _,_=>(a,0,⟨#[]⟩)
def lC (a b:List C):wY:=if a.length=b.length then iy a a b else je 23 ⟨#[]⟩
def fJ (dK:List C):List C→List Ag→wY
 | acc,[]=>eG acc
 | acc,g :: r=>if df acc g.nm=true then je 21 g.nm
   else if g.fn.toList=dQ then fJ dK (acc ++ [⟨g.nm,1⟩]) r
   else if df dK g.vw=false then je 20 g.vw
   else if g.fn.toList=nz∧(ji dK (dL dK g.vw)).k≠1 then je 22 g.vw
   else fJ dK (acc ++ [⟨g.nm,(ji dK (dL dK g.vw)).k⟩]) r
def iU (dK:List C)(ag:List Ag):List C→List ByteArray→wY
 | acc,[]=>fJ dK acc ag
 | acc,s :: r=>if df dK s=false then je 20 s else if df acc s=true then je 21 s else iU dK ag (acc ++ [ji dK (dL dK s)]) r
def xe (S:Nat→Prop)(R:wY)(e:Ending)(w':World):Prop :=
 ∃ (A:Option Addr)(n c:Nat),e=.returned (.tuple #[.slice A n c,.agg #[.int .i64 R.2.1,.string R.2.2]])∧(R.2.1=0→n=R.1.length∧n≤c∧gV w' S A R.1)
theorem fC {S:Nat→Prop} {R:wY} {e:Ending} {w':World} {why:Int} {nm:ByteArray} (hw:why≠0)(hR:R=je why nm)(he:e=.returned (.tuple #[.slice none 0 0,.agg #[.int .i64 why,.string nm]])):xe S R e w':=by
 subst hR
 exact ⟨none,0,0,he,fun h=>absurd h hw⟩
theorem aP {fn:Func} {p q:Tmp} (h:fn.results=#[.tmp q,.cell p 61]) {tmps:Array Value} {w:World} {g:Nat} {x0 x1 u:Value} {t:TypeId}
 (hq:tmps.getD q undef=u)(hp:tmps.getD p undef=.pointer (some ⟨g,0,none⟩))(hg:w.heap[g]?=some (.cells #[x0,x1] t (0,0))):(results fn tmps).run Tryz.prog w=.ok (.tuple #[u,.agg #[x0,x1]]) w:=by
 have hp':tmps[p]?.getD undef=.pointer (some ⟨g,0,none⟩):=by simpa using hp
 have hq':tmps[q]?.getD undef=u:=by simpa using hq
 have hl:=run_loadVar_row (P:=Tryz.prog) w g t 61 #[x0,x1] (0,0) _ hg Tryz.underlying61 rfl (by show _=some 2;kernel_rfl)
 simp [results,h,hp',hq',asAddr,hl]
theorem jv {fn:Func} {p:Tmp} (h:fn.results=#[.cell p 61]) {tmps:Array Value} {w:World} {g:Nat} {x0 x1:Value} {t:TypeId}
 (hp:tmps.getD p undef=.pointer (some ⟨g,0,none⟩))(hg:w.heap[g]?=some (.cells #[x0,x1] t (0,0))):(results fn tmps).run Tryz.prog w=.ok (.agg #[x0,x1]) w:=by
 have hp':tmps[p]?.getD undef=.pointer (some ⟨g,0,none⟩):=by simpa using hp
 have hl:=run_loadVar_row (P:=Tryz.prog) w g t 61 #[x0,x1] (0,0) _ hg Tryz.underlying61 rfl (by show _=some 2;kernel_rfl)
 simp [results,h,hp',asAddr,hl]
def vF (w:World)(p:Nat)(x0 x1:Value):World:=(w.setCell ⟨p,0,none⟩ x0).setCell ⟨p,1,none⟩ x1
theorem aY {w:World} {p:Nat} {a b x0 x1:Value} {t:TypeId} (h:w.heap[p]?=some (.cells #[a,b] t (0,0))):(vF w p x0 x1).heap[p]?=some (.cells #[x0,x1] t (0,0)):=N9 (k:=1) (N9 (k:=0) h)
theorem kD {w:World} {p:Nat} {a b x0 x1:Value} {t:TypeId} (h:w.heap[p]?=some (.cells #[a,b] t (0,0))):(vF w p x0 x1).drew.heap[p]?=some (.cells #[x0,x1] t (0,0)):=(show (vF w p x0 x1).drew.heap[p]?=(vF w p x0 x1).heap[p]? from rfl).trans (aY h)
theorem aQ {w a:World} {p B:Nat} {x0 x1:Value} (h:Below B a w)(hp:B≤p):Below B a (vF w p x0 x1) :=
 (h.setCell (p:=⟨p,0,none⟩) hp x0).setCell (p:=⟨p,1,none⟩) hp x1
theorem iC {w:World} {p k:Nat} {x0 x1:Value} (h:k≠p):(vF w p x0 x1).heap[k]?=w.heap[k]?:=by
 simp only [vF,World.setCell,Array.getElem?_modify]
 rw [if_neg (by omega),if_neg (by omega)]
theorem Ph {w:World} {p:Nat} {x0 x1:Value}:(vF w p x0 x1).heap.size=w.heap.size:=by simp [vF,World.setCell]
theorem Ba (A:Option Addr)(c:Nat)(l:List C)(hn:l.length≤1000000)(nm:ByteArray)(w:World)(hA:kG w w.heap.size A l) :
 Calls Tryz.prog 92 #[.slice A l.length c,.string nm] w fun e w'=>e=.returned (.bool (df l nm))∧Below w.heap.size w w':=by
 have hf:=anc (oP A c l (by omega) nm w hA)
 generalize dL l nm=i at *
 generalize df l nm=q at *
 generalize l.length=n at *
 clear hA
 go_enter Tryz.func92,Tryz.ntmps92
 go_wp2_with fail
 refine (hf.out).mono ?_
 rintro e w' ⟨rfl,hb⟩
 have HB:=anc hb
 clear hb
 go_wp2_with fail
 go_ret
 exact ⟨rfl,HB.out⟩
theorem rP (A:Option Addr)(c:Nat)(l:List C)(hn:l.length≤1000000)(hc:l.length≤c)(w:World) {S:Nat→Prop} (hA:gV w S A l)(hS:∀ k,S k→k < w.heap.size) :
 Calls Tryz.prog 93 #[.slice A l.length c] w fun e w'=>xe S (eG l) e w'∧Below w.heap.size w w':=by
 obtain ⟨R,hR⟩:∃ R,R=eG l:=⟨_,rfl⟩
 rw [← hR]
 obtain ⟨w1,aK⟩:∃ w1,w1=w.alloc (.cells #[.int .i64 0,.string ⟨#[]⟩] 61):=⟨_,rfl⟩
 have hb1:Below w.heap.size w w1:=by rw [aK];exact (anl _ _).alloc (ank _) _
 have hx1:w1.heap[w.heap.size]?=some (.cells #[.int .i64 0,.string ⟨#[]⟩] 61 (0,0)):=by rw [aK];exact anm w _
 have HW1:=anc aK
 have HB1:=anc hb1
 have gU:=anc hx1
 have HA:=anc hA
 have HS:=anc hS
 have KC:Hid (l.length≤c):=anc hc
 obtain ⟨⟨k0,k1⟩,f0,f1⟩:=cell2 hx1
 clear aK hb1 hx1 hA hS hc
 have HR0:Hid (l.length=0∨6 < l.length→R=je 23 ⟨#[]⟩):=anc (fun h=>by rw [hR];unfold eG;rw [if_pos h])
 have HR1:Hid (¬ (l.length=0∨6 < l.length)→R=(l,0,⟨#[]⟩)):=anc (fun h=>by rw [hR];unfold eG;rw [if_neg h])
 obtain ⟨n,en⟩:∃ n,l.length=n:=⟨_,rfl⟩
 have HN:=anc en
 rw [en] at HR0 HR1 KC hn ⊢
 clear hR en
 by_cases h0:n=0
 ·subst h0
  have hr:=anc (HR0.out (.inl rfl))
  go_enter Tryz.func93,Tryz.ntmps93
  go_upto_region 1 with (fail)
  rw [← HW1.out]
  go_wp2_with fail
  refine ano (aP rfl rfl rfl (aY gU.out)) rfl ?_
  exact ⟨fC (by decide) hr.out rfl,aQ HB1.out (ank _)⟩
 ·have h0':((n:Int) == 0)=false:=by simp;omega
  by_cases h6:6 < n
  ·have h6':(6:Int) < (n:Int):=by omega
   have hr:=anc (HR0.out (.inr h6))
   go_enter Tryz.func93,Tryz.ntmps93
   go_upto_region 1 with (fail)
   rw [← HW1.out]
   go_wp2_with fail
   refine ano (aP rfl rfl rfl (aY gU.out)) rfl ?_
   exact ⟨fC (by decide) hr.out rfl,aQ HB1.out (ank _)⟩
  ·have h6':decide ((6:Int) < (n:Int))=false:=decide_eq_false (by omega)
   have hr:=anc (HR1.out (by omega))
   clear h6
   go_enter Tryz.func93,Tryz.ntmps93
   go_upto_region 1 with (fail)
   rw [← HW1.out]
   go_wp2_with fail
   refine ano (aP rfl rfl rfl (aY gU.out)) rfl ?_
   refine ⟨⟨A,n,c,by rw [hr.out];rfl,fun _=>?_⟩,aQ HB1.out (ank _)⟩
   rw [hr.out]
   refine ⟨HN.out.symm,KC.out,HA.out.kept fun k hk=>?_⟩
   have:=HS.out k hk
   exact (iC (by omega)).trans (HB1.out.block k this)
theorem rQ {w:World} {p n:Nat} {a b x0 x1:Value} {t:TypeId} (h:w.heap[p]?=some (.cells #[a,b] t (0,0))):(vF (w.drewN n) p x0 x1).heap[p]?=some (.cells #[x0,x1] t (0,0)):=aY (w:=w.drewN n) (show (w.drewN n).heap[p]?=some (.cells #[a,b] t (0,0)) from h)
theorem II {a l r:List C} {k:Nat} {x y:C} (hx:l[k]?=some x)(hy:r[k]?=some y):iy a (l.drop k) (r.drop k)=if x.k=y.k then iy a (l.drop (k+1)) (r.drop (k+1)) else je 22 x.nm:=by
 obtain ⟨h1,e1⟩:=List.getElem?_eq_some_iff.1 hx
 obtain ⟨h2,e2⟩:=List.getElem?_eq_some_iff.1 hy
 rw [List.drop_eq_getElem_cons h1,e1,List.drop_eq_getElem_cons h2,e2,iy]
theorem Ld {a l r:List C} {k:Nat} (h:l.length≤k):iy a (l.drop k) (r.drop k)=(a,0,⟨#[]⟩):=by
 rw [List.drop_of_length_le h]
 cases r.drop k <;> rfl
theorem gV.get {w:World} {S:Nat→Prop} {A:Option Addr} {l:List C} (h:gV w S A l) {i:Nat} {x:C} (hx:l[i]?=some x):∃ b off,A=some ⟨b,off,none⟩∧S b∧w.cell? ⟨b,off+i * 2,none⟩=some (.string x.nm)∧w.cell? ⟨b,off+i * 2+1,none⟩=some (.int .i64 x.k):=by
 rcases h with rfl | ⟨b,off,e,hb,h⟩
 ·simp at hx
 ·exact ⟨b,off,e,hb,h i x hx⟩
theorem Pj (A B:Option Addr)(c d:Nat)(a b:List C)(ha:a.length≤1000000)(hb:b.length≤1000000)(hc:a.length≤c)(w:World) {S:Nat→Prop} (hA:gV w S A a)(hB:gV w S B b)(hS:∀ k,S k→k < w.heap.size) :
 Calls Tryz.prog 50 #[.slice A a.length c,.slice B b.length d] w fun e w'=>xe S (lC a b) e w'∧Below w.heap.size w w':=by
 obtain ⟨w1,aK⟩:∃ w1,w1=w.alloc (.cells #[.int .i64 0,.string ⟨#[]⟩] 61):=⟨_,rfl⟩
 have hb1:Below w.heap.size w w1:=by rw [aK];exact (anl _ _).alloc (ank _) _
 have hx1:w1.heap[w.heap.size]?=some (.cells #[.int .i64 0,.string ⟨#[]⟩] 61 (0,0)):=by rw [aK];exact anm w _
 have hs1:w.heap.size < w1.heap.size:=(Array.getElem?_eq_some_iff.1 hx1).1
 have HW1:=anc aK
 have HB1:=anc hb1
 have gU:=anc hx1
 have HA:=anc hA
 have HB:=anc hB
 have HS:=anc hS
 obtain ⟨⟨k0,k1⟩,f0,f1⟩:=cell2 hx1
 clear aK hb1 hx1 hA hB hS
 obtain ⟨n,en⟩:∃ n,a.length=n:=⟨_,rfl⟩
 obtain ⟨m,em⟩:∃ m,b.length=m:=⟨_,rfl⟩
 have HN:=anc en
 have HM:=anc em
 obtain ⟨R,hR⟩:∃ R,R=lC a b:=⟨_,rfl⟩
 have HR:=anc hR
 have KC:Hid (n≤c):=anc (by omega)
 rw [← hR,en,em]
 rw [en] at ha
 rw [em] at hb
 clear hR en em hc
 by_cases hnm:n=m
 ·subst hnm
  have HR1:Hid (R=iy a a b):=anc (by rw [HR.out];unfold lC;rw [if_pos (HN.out.trans HM.out.symm)])
  go_enter Tryz.func50,Tryz.ntmps50
  go_upto_region 1 with (fail)
  rw [← HW1.out]
  go_wp2_with fail
  go_loopw [16] (fun i wr=>∃ k:Nat,k≤n∧i=.int .i64 k∧Below w1.heap.size w1 wr∧Hid (R=iy a (a.drop k) (b.drop k))) (fun i _=>n - (intOf i).toNat)
  case atStart=>exact ⟨0,Nat.zero_le _,rfl,anl _ _,by simpa using HR1⟩
  case round =>
   obtain ⟨k,hk,rfl,hbr,HL⟩:=hrel
   have VU:=anc hbr
   have hs:=hbr.size
   have dC:=anc (HB1.out.trans (hbr.mono (Nat.le_of_lt hs1)))
   have yT:=anc ((hbr.block w.heap.size hs1).trans gU.out)
   clear hbr k0 k1 f0 f1
   by_cases hlt:k < n
   ·obtain ⟨x,hx⟩:∃ x,a[k]?=some x:=⟨_,anr (by rw [HN.out];exact hlt)⟩
    obtain ⟨y,hy⟩:∃ y,b[k]?=some y:=⟨_,anr (by rw [HM.out];exact hlt)⟩
    obtain ⟨b1,o1,rfl,hS1,c1,c2⟩:=HA.out.get hx
    obtain ⟨b2,o2,rfl,hS2,e1,e2⟩:=HB.out.get hy
    have hl1:=HS.out b1 hS1
    have hl2:=HS.out b2 hS2
    have x1:=(dC.out.cell hl1).trans c1
    have x2:=(dC.out.cell hl1).trans c2
    have y2:=(dC.out.cell hl2).trans e2
    have hst:=anc (HL.out.trans (II hx hy))
    have hlk:(k:Int) < (n:Int):=by omega
    obtain ⟨xn,xk⟩:=x
    obtain ⟨yn,yk⟩:=y
    simp only at x1 x2 y2 hst
    obtain ⟨wx,dN⟩:∃ wx,wx=wr.alloc (.cells #[.string xn,.int .i64 xk] 42):=⟨_,rfl⟩
    have hbx:Below wr.heap.size wr wx:=by rw [dN];exact (anl _ _).alloc (ank _) _
    have Aa:Hid (wx.heap[wr.heap.size]?=some (.cells #[.string xn,.int .i64 xk] 42 (0,0))):=anc (by rw [dN];exact anm wr _)
    have z2:=(hbx.cell (show (⟨b2,o2+k * 2+1,none⟩:Addr).block < wr.heap.size from anp hl2 dC.out.size)).trans y2
    have iJ:=anc (VU.out.trans (hbx.mono hs))
    have HXX:=anc ((hbx.block w.heap.size (anp hs1 hs)).trans yT.out)
    have jM:=anc dN
    have hnx:=Aa.out
    obtain ⟨⟨n0,n1⟩,_,_⟩:=cell2 hnx
    clear hx hy c1 c2 e1 e2 y2 dN hbx HL hnx
    go_upto_region 6 with (fail)
    rw [← jM.out]
    clear x1 x2
    by_cases hk:xk=yk
    ·subst hk
     have HL2:Hid (R=iy a (a.drop (k+1)) (b.drop (k+1))):=anc (by rw [hst.out,if_pos rfl])
     clear hst
     go_quiet (fail)
     go_wp2_with fail
     go_roundw
     case rel=>exact ⟨k+1,by omega,by go_num,by first | exact iJ.out | exact below_drewN iJ.out _,HL2⟩
     case measure=>simp [intOf];omega
    ·have hk':(xk != yk)=true:=by simpa using hk
     have HL2:Hid (R=je 22 xn):=anc (by rw [hst.out,if_neg hk])
     clear hst hk
     obtain ⟨⟨k0,k1⟩,f0,f1⟩:=cell2 HXX.out
     go_quiet (fail)
     go_upto_region 7 with (fail)
     go_region
     all_goals
      go_wp2_with fail
      refine ano (aP rfl rfl rfl (rQ HXX.out)) rfl ?_
      exact ⟨fC (by decide) HL2.out rfl,aQ (below_drewN (HB1.out.trans (iJ.out.mono (Nat.le_of_lt hs1))) _) (ank _)⟩
   ·obtain rfl:k=n:=by omega
    have HL2:Hid (R=(a,0,⟨#[]⟩)):=anc (by rw [HL.out,Ld (by rw [HN.out];exact ank _)])
    obtain ⟨⟨k0,k1⟩,f0,f1⟩:=cell2 yT.out
    clear HL
    go_wp2_with fail
    refine ano (aP rfl rfl rfl (aY yT.out)) rfl ?_
    refine ⟨⟨A,k,c,by rw [HL2.out];rfl,fun _=>?_⟩,aQ dC.out (ank _)⟩
    rw [HL2.out]
    refine ⟨HN.out.symm,KC.out,HA.out.kept fun q hq=>?_⟩
    have:=HS.out q hq
    exact (iC (by omega)).trans (dC.out.block q this)
 ·have h1:((n:Int) != (m:Int))=true:=by simp;omega
  have HR1:Hid (R=je 23 ⟨#[]⟩):=anc (by rw [HR.out];unfold lC;rw [if_neg (by rw [HN.out,HM.out];exact hnm)])
  clear hnm
  go_enter Tryz.func50,Tryz.ntmps50
  go_upto_region 1 with (fail)
  rw [← HW1.out]
  go_wp2_with fail
  refine ano (aP rfl rfl rfl (aY gU.out)) rfl ?_
  exact ⟨fC (by decide) HR1.out rfl,aQ HB1.out (ank _)⟩
def C.cs (c:C):List Value:=[.string c.nm,.int .i64 c.k]
def gI (l:List C):List Value:=l.flatMap C.cs
theorem EO (l:List C):(gI l).length=l.length * 2:=by
 induction l with
 | nil=>rfl
 | cons v l ih=>show ((C.cs v) ++ gI l).length=_;simp [ih,C.cs];omega
theorem ER (l:List C):∀ (i:Nat)(v:C),l[i]?=some v→(gI l)[i * 2]?=some (.string v.nm)∧(gI l)[i * 2+1]?=some (.int .i64 v.k):=by
 induction l with
 | nil=>intro i v h;simp at h
 | cons x l ih =>
   intro i v h
   have e:gI (x :: l)=C.cs x ++ gI l:=rfl
   rw [e]
   cases i with
   | zero =>
     obtain rfl:x=v:=by simpa using h
     exact ⟨rfl,rfl⟩
   | succ i =>
     have:=ih i v (by simpa using h)
     have hl:(C.cs x).length=2:=rfl
     rw [List.getElem?_append_right (by omega),List.getElem?_append_right (by omega),hl]
     rw [show (i+1) * 2 - 2=i * 2 from by omega,show (i+1) * 2+1 - 2=i * 2+1 from by omega]
     exact this
theorem Le (l:List C):∀ u ∈ gI l,u.oneCell'=true:=by
 intro u hu
 obtain ⟨v,_,hv⟩:=List.mem_flatMap.1 hu
 simp only [C.cs,List.mem_cons,List.not_mem_nil,or_false] at hv
 rcases hv with rfl | rfl <;> rfl
theorem IJ (l:List C)(j:Nat)(u:Value)(h:(gI l)[j]?=some u):∃ v:C,l[j / 2]?=some v∧(gI l)[j / 2 * 2+j % 2]?=some u:=by
 have hj:j < (gI l).length:=(List.getElem?_eq_some_iff.1 h).1
 rw [EO] at hj
 exact ⟨l[j / 2]'(by omega),anr (by omega),by rw [show j / 2 * 2+j % 2=j from by omega];exact h⟩
theorem Rn.news {w:World} {b off:Nat} {l:List C} (h:Rn w b off l)(j:Nat)(u:Value)(hu:(gI l)[j]?=some u):w.cell? ((⟨b,off,none⟩:Addr).add j)=some u:=by
 obtain ⟨v,hv,hf⟩:=IJ l j u hu
 obtain ⟨f1,f2⟩:=ER l _ v hv
 obtain ⟨c1,c2⟩:=h _ v hv
 have e:(⟨b,off,none⟩:Addr).add j=⟨b,off+(j / 2 * 2+j % 2),none⟩:=by
  unfold Addr.add
  split
  ·subst_vars;rfl
  ·rw [show j / 2 * 2+j % 2=j from by omega]
 rw [e]
 have:j % 2=0∨j % 2=1:=by omega
 rcases this with h3 | h3 <;> rw [h3] at hf ⊢
 ·rw [Nat.add_zero] at hf ⊢;rw [f1] at hf;rw [c1];exact hf
 ·rw [f2] at hf;rw [← Nat.add_assoc,c2];exact hf
theorem gV.reads {w:World} {S:Nat→Prop} {A:Option Addr} {l:List C} {B:Nat} (h:gV w S A l)(hS:∀ k,S k→k < B):Reads w B 2 A l.length (gI l):=by
 refine ⟨EO l,fun hn=>?_⟩
 rcases h with rfl | ⟨b,off,hA,hb,h⟩
 ·simp at hn
 ·exact ⟨_,hA,hS b hb,h.news⟩
theorem pz {w:World} {S:Nat→Prop} {base:Nat} {e:TypeId} {v:Value} {l:List C} (h:w.ownsRow base e 2 v l.length (gI l))(hS:∀ g,base≤g→g < w.heap.size→(∀ o,w.frozen? ⟨g,o,none⟩=false)→S g) :
 ∃ A c,v=.slice A l.length c∧l.length≤c∧gV w S A l:=by
 obtain ⟨_,hcase⟩:=id h
 rcases hcase with ⟨rfl,h0⟩ | ⟨g,cap,cur,rfl,hg,hh,hn,hcap,hsz,htake⟩
 ·exact ⟨none,0,by rw [h0],by omega,.inl (List.eq_nil_of_length_eq_zero h0)⟩
 ·have hlt:g < w.heap.size:=(Array.getElem?_eq_some_iff.1 hh).1
  refine ⟨some ⟨g,0,none⟩,cap,rfl,hn,.inr ⟨g,0,rfl,hS g hg hlt (fun o=>h.frozenAt o),?_⟩⟩
  intro i x hx
  obtain ⟨f1,f2⟩:=ER l i x hx
  have hi:i < l.length:=(List.getElem?_eq_some_iff.1 hx).1
  rw [Nat.zero_add,h.cellAt _ (by omega),h.cellAt _ (by omega)]
  exact ⟨f1,f2⟩
theorem xg:(Tryz.prog.info? 42).map (fun i=>(i.zero,i.size,i.bytes))=some (some (.agg #[.string ByteArray.empty,.int .i64 0]),2,24):=by kernel_rfl
theorem mX (v:C):gI [v]=C.cs v:=by simp [gI]
theorem jw (a b:List C):gI (a ++ b)=gI a ++ gI b:=by simp [gI]
theorem IK (w0:World)(e:TypeId) {base:Nat} (h:base≤w0.heap.size)(z:Nat):(w0.alloc (.cells #[] e)).ownsRow base e z (.slice (some ⟨w0.heap.size,0,none⟩) 0 0) 0 [] :=
 ⟨by simp,.inr ⟨w0.heap.size,0,#[],rfl,h,anm w0 _,ank _,by decide,by simp,by simp⟩⟩
theorem cloneCols (A:Option Addr)(c:Nat)(l:List C)(w:World) {S:Nat→Prop} (hA:gV w S A l)(hS:∀ k,S k→k < w.heap.size)(hl:l.length≤1099511627776) :
 Calls Tryz.prog 46 #[.slice A l.length c] w fun e w'=>(∃ v',e=.returned v'∧w'.ownsRow w.heap.size 42 2 v' l.length (gI l))∧Below w.heap.size w w':=by
 obtain ⟨i0,hi,hz0,hz1,hz2⟩:=info_parts xg
 have HR:=anc (hA.reads hS)
 have q22:∀ (w:World)(a:Option Addr)(n c n' c':Nat),(binOp .eql 29 (.slice a n c) (.slice none n' c')).run Tryz.prog w=.ok (.bool a.isNone) w:=fun w a n c n' c'=>Lib.run_eql_slice_nil w 29 42 a n c n' c' Tryz.underlying29
 obtain ⟨n,hn⟩:∃ n,l.length=n:=⟨_,rfl⟩
 have HN:=anc hn
 rw [hn] at hl ⊢
 rw [hn] at HR
 clear hA hn
 rcases A with _ | ad
 ·have hn0:n=0:=by
   rcases Nat.eq_zero_or_pos n with h | h
   ·exact h
   ·obtain ⟨ad,h,_⟩:=HR.out.2 h;cases h
  subst hn0
  have hl0:l=[]:=List.eq_nil_of_length_eq_zero HN.out
  subst hl0
  go_enter Tryz.func46,Tryz.ntmps46
  go_wp2
  go_ret
  exact ⟨⟨_,rfl,World.ownsRow_nil _ _ _ _⟩,anl _ _⟩
 ·go_enter Tryz.func46,Tryz.ntmps46
  go_wp2_with (at_builtin;refine gZ _ rfl _ _ 29 rfl w.heap.size 42 i0 _ 2 24 Tryz.underlying29 hi hz0 hz1 hz2 rfl (by decide) _ _ _ rfl (IK w 42 (ank _) 2) w.heap.size _ _ _ (gI l) rfl (HR.out.alloc (ank _) _) ?c1 ?c2 ?c3 ?c4 ?_)
  case c1=>exact Le _
  case c2=>unfold maxLen;omega
  case c3=>omega
  case c4=>simp
  intro v' w1 hown hgrow _
  have hb:=anc (((anl w.heap.size w).alloc (ank _) _).grown hgrow (by simp) (fun k e=>by have:=Option.some.inj e;simp at this;omega))
  have ho:=anc hown
  clear hown hgrow
  go_wp2_with fail
  go_ret
  exact ⟨⟨_,rfl,by simpa using ho.out⟩,hb.out⟩
mutual
def eU:T→T
 | .mk k s n l _=>if k=2 then .mk 2 s 0 [] 0 else if k=3 then .mk 3 ⟨#[]⟩ n [] 0 else if k=4 then .mk 4 s 0 [] 0 else .mk 1 ⟨#[]⟩ 0 (vG l) 0
def vG:List T→List T
 | []=>[]
 | x :: l=>eU x :: vG l
end
mutual
def dm:E→T
 | .mk k s n l=>if k=1 then .mk 2 s 0 [] 0 else if k=2 then .mk 3 ⟨#[]⟩ n [] 0 else if k=3 then .mk 4 s 0 [] 0 else .mk 1 ⟨#[]⟩ 0 (.mk 2 s 0 [] 0 :: jc l) 0
def jc:List E→List T
 | []=>[]
 | x :: l=>dm x :: jc l
end
inductive nD:E→Prop
 | vw (s:ByteArray)(h:nameB s=true):nD (.mk 1 s 0 [])
 | num (n:Int):nD (.mk 2 ⟨#[]⟩ n [])
 | str (s:ByteArray):nD (.mk 3 s 0 [])
 | app (s:ByteArray)(l:List E)(h0:dB s.toList≠0)(hl:l.length=dB s.toList)(hk:∀ e ∈ l,nD e):nD (.mk 4 s 0 l)
theorem qp (l:List E):(jc l).length=l.length:=by
 induction l with
 | nil=>rfl
 | cons x l ih=>rw [jc,List.length_cons,List.length_cons,ih]
def Yp (t:T):Prop:=(aI t).2.1=0→dm (aI t).1=eU t∧aI (dm (aI t).1)=((aI t).1,0,0)∧nD (aI t).1
theorem ES:∀ (l:List T),(∀ t ∈ l,Yp t)→(aN l).2.1=0→jc (aN l).1=vG l∧aN (jc (aN l).1)=((aN l).1,0,0)∧(∀ e ∈ (aN l).1,nD e)∧(aN l).1.length=l.length
 | [],_,_=>by
   rw [aN]
   exact ⟨by rw [jc,vG],by rw [jc,aN],(fun e he=>by cases he),rfl⟩
 | x :: l,hM,h=>by
   rw [aN] at h ⊢
   by_cases hx:(aI x).2.1=0
   ·rw [if_pos hx] at h ⊢
    simp only at h ⊢
    obtain ⟨h1,h2,h3⟩:=hM x List.mem_cons_self hx
    obtain ⟨g1,g2,g3,g4⟩:=ES l (fun t ht=>hM t (List.mem_cons_of_mem _ ht)) h
    refine ⟨by rw [jc,vG,h1,g1],?_,fun e he=>?_,by rw [List.length_cons,List.length_cons,g4]⟩
    ·rw [jc,aN,h2,if_pos rfl,g2]
    ·rcases List.mem_cons.1 he with rfl | he
     ·exact h3
     ·exact g3 e he
   ·rw [if_neg hx] at h
    exact absurd h hx
theorem xh (s:ByteArray)(n:Int)(l:List E):dm (.mk 1 s n l)=.mk 2 s 0 [] 0:=by unfold dm;rw [if_pos rfl]
theorem xq (s:ByteArray)(n:Int)(l:List E):dm (.mk 2 s n l)=.mk 3 ⟨#[]⟩ n [] 0:=by unfold dm;rw [if_neg (by decide),if_pos rfl]
theorem xu (s:ByteArray)(n:Int)(l:List E):dm (.mk 3 s n l)=.mk 4 s 0 [] 0:=by unfold dm;rw [if_neg (by decide),if_neg (by decide),if_pos rfl]
theorem xw (s:ByteArray)(n:Int)(l:List E):dm (.mk 4 s n l)=.mk 1 ⟨#[]⟩ 0 (.mk 2 s 0 [] 0 :: jc l) 0:=by unfold dm;rw [if_neg (by decide),if_neg (by decide),if_neg (by decide)]
theorem rU (s:ByteArray)(n a:Int)(l:List T):aI (.mk 2 s n l a)=if nameB s then (.mk 1 s 0 [],0,0) else (zeroE,20,a):=by unfold aI;rw [if_pos rfl]
theorem xx (s:ByteArray)(n a:Int)(l:List T):aI (.mk 3 s n l a)=(.mk 2 ⟨#[]⟩ n [],0,0):=by unfold aI;rw [if_neg (by decide),if_pos rfl]
theorem xy (s:ByteArray)(n a:Int)(l:List T):aI (.mk 4 s n l a)=(.mk 3 s 0 [],0,0):=by unfold aI;rw [if_neg (by decide),if_neg (by decide),if_pos rfl]
theorem pF (s:ByteArray)(n a:Int)(x:T)(ks:List T):aI (.mk 1 s n (x :: ks) a)=if x.k=2∧dB x.s.toList≠0 then
 (if ks.length=dB x.s.toList then (if (aN ks).2.1=0 then (.mk 4 x.s 0 (aN ks).1,0,0) else (zeroE,(aN ks).2.1,(aN ks).2.2)) else (zeroE,23,a)) else (zeroE,12,a):=by
 unfold aI
 rw [if_neg (by decide),if_neg (by decide),if_neg (by decide),if_pos rfl]
theorem IL {s:ByteArray} {n a:Int} {x:T} {ks:List T} (h1:x.k=2)(h2:dB x.s.toList≠0)(h3:ks.length=dB x.s.toList)(h4:(aN ks).2.1=0):aI (.mk 1 s n (x :: ks) a)=(.mk 4 x.s 0 (aN ks).1,0,0):=by
 rw [pF,if_pos ⟨h1,h2⟩,if_pos h3,if_pos h4]
theorem uj (s:ByteArray)(n a:Int):aI (.mk 1 s n [] a)=(zeroE,12,a):=by
 unfold aI
 rw [if_neg (by decide),if_neg (by decide),if_neg (by decide),if_pos rfl]
theorem xB {k:Int} (h1:k≠1)(h2:k≠2)(h3:k≠3)(h4:k≠4)(s:ByteArray)(n a:Int)(l:List T):aI (.mk k s n l a)=(zeroE,12,a):=by
 unfold aI
 rw [if_neg h2,if_neg h3,if_neg h4,if_neg h1]
theorem rV:∀ t,Yp t:=T.ind (fun k s n l a ih=>by
 intro h
 by_cases h2:k=2
 ·subst h2
  by_cases hn:nameB s=true
  ·rw [rU,if_pos hn]
   refine ⟨?_,?_,.vw s hn⟩
   ·rw [xh];unfold eU;rw [if_pos rfl]
   ·rw [xh,rU,if_pos hn]
  ·rw [rU,if_neg hn] at h
   simp at h
 ·by_cases h3:k=3
  ·subst h3
   rw [xx]
   refine ⟨?_,?_,.num n⟩
   ·rw [xq];unfold eU;rw [if_neg (by decide),if_pos rfl]
   ·rw [xq,xx]
  ·by_cases h4:k=4
   ·subst h4
    rw [xy]
    refine ⟨?_,?_,.str s⟩
    ·rw [xu];unfold eU;rw [if_neg (by decide),if_neg (by decide),if_pos rfl]
    ·rw [xu,xy]
   ·by_cases h1:k=1
    ·subst h1
     cases l with
     | nil=>rw [uj] at h;simp at h
     | cons x ks =>
       rw [pF] at h
       by_cases hx:x.k=2∧dB x.s.toList≠0
       ·rw [if_pos hx] at h
        by_cases hl:ks.length=dB x.s.toList
        ·rw [if_pos hl] at h
         by_cases hr:(aN ks).2.1=0
         ·obtain ⟨g1,g2,g3,g4⟩:=ES ks (fun t ht=>ih t (List.mem_cons_of_mem _ ht)) hr
          rw [pF,if_pos hx,if_pos hl,if_pos hr]
          refine ⟨?_,?_,.app x.s _ hx.2 (by rw [g4];exact hl) g3⟩
          ·rw [xw]
           obtain ⟨xk,xs,xn,xl,xa⟩:=x
           simp only [T.k,T.s] at hx ⊢
           unfold eU
           rw [if_neg (by decide),if_neg (by decide),if_neg (by decide)]
           unfold vG eU
           rw [if_pos hx.1,g1]
          ·obtain ⟨xk,xs,xn,xl,xa⟩:=x
           rw [xw]
           have:=IL (s:=⟨#[]⟩) (n:=0) (a:=0) (x:=T.mk 2 xs 0 [] 0) (ks:=jc (aN ks).1) rfl hx.2 (by rw [qp,g4];exact hl) (by rw [g2])
           rw [g2] at this
           exact this
         ·rw [if_neg hr] at h
          exact absurd h hr
        ·rw [if_neg hl] at h
         simp at h
       ·rw [if_neg hx] at h
        simp at h
    ·rw [xB h1 h2 h3 h4] at h
     simp at h)
theorem nD.ok {e:E} (h:nD e):cZ e=true:=by
 induction h with
 | vw s h=>rw [cZ,if_pos rfl,h];rfl
 | num n=>rw [cZ,if_neg (by decide),if_pos rfl];kernel_rfl
 | str s=>rw [cZ,if_neg (by decide),if_neg (by decide),if_pos rfl];rfl
 | app s l h0 hl hk ih =>
   rw [cZ,if_neg (by decide),if_neg (by decide),if_neg (by decide),if_pos rfl,yM l,List.all_eq_true.2 ih]
   have h1:decide (0 < dB s.toList)=true:=decide_eq_true (by omega)
   rw [h1,hl]
   simp
def Lh (e:E):Prop:=nD e→∀ (A:Option Addr)(c:Nat)(w:World),eQ w w.heap.size A e.kids →
 Calls Tryz.prog 67 #[e.val A c] w fun r w'=>(∃ A' c',r=.returned ((dm e).val A' c')∧(dm e).kids.length≤c'∧ku w' (fun k=>w.heap.size≤k∧k < w'.heap.size) A' (dm e).kids)∧Below w.heap.size w w'
theorem kN {w w':World} {base n c g:Nat} {e:TypeId} {z:Nat} {xs:List Value} (h:w.ownsRow base e z (.slice (some ⟨g,0,none⟩) n c) n xs)(hb:w'.heap[g]?=w.heap[g]?):w'.ownsRow base e z (.slice (some ⟨g,0,none⟩) n c) n xs:=by
 refine ⟨h.1,?_⟩
 rcases h.2 with hn | ⟨g',cap,cur,e1,hg,hgg,rest⟩
 ·exact .inl hn
 ·have hgg':g=g':=by injection e1 with e1;injection e1 with e1;injection e1
  subst hgg'
  exact .inr ⟨g,cap,cur,e1,hg,by rw [hb];exact hgg,rest⟩
theorem BN {l:List E} {j:Nat} {x:E} (h:l[j]?=some x):(jc l).take (j+1)=(jc l).take j ++ [dm x]:=by
 induction l generalizing j with
 | nil=>simp at h
 | cons y l ih =>
   cases j with
   | zero =>
     obtain rfl:y=x:=by simpa using h
     rw [jc]
     rfl
   | succ j =>
     rw [jc,List.take_succ_cons,List.take_succ_cons,ih (by simpa using h)]
     rfl
theorem Gj (s:ByteArray):dB s.toList≤3:=by
 unfold dB
 repeat' split
 all_goals decide
theorem pG (s:ByteArray)(w:World)(S:Nat→Prop):∀ p ∈ [((.mk 2 s 0 [] 0:T),(none:Option Addr),0)],p.1.kids.length≤p.2.2∧ku w S p.2.1 p.1.kids:=fun p hp=>by
 obtain rfl:p=((.mk 2 s 0 [] 0:T),none,0):=by simpa using hp
 exact ⟨ank _,.nil _⟩
theorem Pm (k:Int)(s:ByteArray)(n:Int)(l:List E)(hM:∀ e ∈ l,Lh e):Lh (.mk k s n l):=by
 intro hm A c w hA
 have iL:=Ip (.mk k s n l)
 unfold pX at iL
 rw [hm.ok] at iL
 simp only [E.val,E.k,E.s,E.n,E.kids] at hA iL ⊢
 obtain ⟨tr,htr⟩:∃ tr,tr=dm (.mk k s n l):=⟨_,rfl⟩
 rw [← htr]
 have Gl:=anc htr
 clear htr
 obtain ⟨ln,oL⟩:∃ ln,ln=l.length:=⟨_,rfl⟩
 have hlen:=hA.len
 rw [← oL] at hlen iL ⊢
 obtain ⟨wa,nC⟩:∃ wa,wa=w.alloc (.cells #[.int .i64 k,.string s,.int .i64 n,.slice A ln c] 38):=⟨_,rfl⟩
 have hba:Below w.heap.size w wa:=by rw [nC];exact (anl _ _).alloc (ank _) _
 have hsa:wa.heap.size=w.heap.size+1:=by rw [nC];simp
 have hxa:wa.heap[w.heap.size]?=some (.cells #[.int .i64 k,.string s,.int .i64 n,.slice A ln c] 38 (0,0)):=by rw [nC];exact anm w _
 obtain ⟨w1,aK⟩:∃ w1,w1=wa.alloc (.cells #[.int .i64 0,.string ⟨#[]⟩,.int .i64 0,.slice none 0 0,.int .i64 0] 71):=⟨_,rfl⟩
 have hb1:Below wa.heap.size wa w1:=by rw [aK];exact (anl _ _).alloc (ank _) _
 have hs1:w1.heap.size=w.heap.size+2:=by rw [aK];simp;omega
 have hr1:w1.heap[w.heap.size+1]?=some (.cells #[.int .i64 0,.string ⟨#[]⟩,.int .i64 0,.slice none 0 0,.int .i64 0] 71 (0,0)):=by rw [aK,← hsa];exact anm wa _
 have hx1:w1.heap[w.heap.size]?=some (.cells #[.int .i64 k,.string s,.int .i64 n,.slice A ln c] 38 (0,0)):=(hb1.block _ (by omega)).trans hxa
 have hbw:Below w.heap.size w w1:=hba.trans (hb1.mono (by omega))
 have hmd:=anc (iL A c w1 ((hA.low hbw).more hbw.size))
 obtain ⟨⟨k0,k1,k2,k3⟩,_,_,_,_⟩:=bQ hx1
 have HW1:=anc (show w1=(w.alloc (.cells #[.int .i64 k,.string s,.int .i64 n,.slice A ln c] 38)).alloc (.cells #[.int .i64 0,.string ⟨#[]⟩,.int .i64 0,.slice none 0 0,.int .i64 0] 71) by rw [aK,nC])
 have gU:=anc hx1
 have HR1:=anc hr1
 have HB1:=anc hbw
 have HK:=anc hA
 have jh:=anc oL
 have HM:=anc hM
 clear nC hba hsa hxa aK hb1 hr1 hx1 hbw iL hA hM oL wa
 go_enter Tryz.func67,Tryz.ntmps67
 go_upto_region 1 with (fail)
 rw [← HW1.out]
 go_wp2_with fail
 refine (hmd.out).mono ?_
 rintro r wm ⟨rfl,hbm⟩
 have Yq:=anc ((hbm.block w.heap.size (by omega)).trans gU.out)
 have Sj:=anc ((hbm.block (w.heap.size+1) (by omega)).trans HR1.out)
 have VV:=anc (HB1.out.trans (hbm.mono (by omega)))
 have hsm:=hbm.size
 obtain ⟨⟨k0,k1,k2,k3⟩,_,_,_,_⟩:=bQ Yq.out
 obtain ⟨⟨r0,r1,r2,r3,r4⟩,s0,s1,s2,s3,s4⟩:=ay Sj.out
 clear hbm
 cases hm with
 | vw s h =>
   go_wp2_with fail
   refine ano (gm rfl rfl (aB Sj.out)) rfl ?_
   rw [Gl.out,xh]
   exact ⟨⟨none,0,rfl,ank _,.nil _⟩,aC VV.out (Nat.le_succ _)⟩
 | num n =>
   go_wp2_with fail
   refine ano (gm rfl rfl (aB Sj.out)) rfl ?_
   rw [Gl.out,xq]
   exact ⟨⟨none,0,rfl,ank _,.nil _⟩,aC VV.out (Nat.le_succ _)⟩
 | str s =>
   go_wp2_with fail
   refine ano (gm rfl rfl (aB Sj.out)) rfl ?_
   rw [Gl.out,xu]
   exact ⟨⟨none,0,rfl,ank _,.nil _⟩,aC VV.out (Nat.le_succ _)⟩
 | app s l h0 hl hk =>
   have hlf:ln≤600:=by have:=Gj s;have:=jh.out;omega
   obtain ⟨i0,hi,hz0,hz1,hz2⟩:=info_parts mV
   obtain ⟨wn,Sl⟩:∃ wn,wn=wm.alloc (.cells #[.int .i64 2,.string s,.int .i64 0,.slice none 0 0,.int .i64 0] 71):=⟨_,rfl⟩
   have hbn:Below wm.heap.size wm wn:=by rw [Sl];exact (anl _ _).alloc (ank _) _
   have hsn:wn.heap.size=wm.heap.size+1:=by rw [Sl];simp
   have hnn:wn.heap[wm.heap.size]?=some (.cells #[.int .i64 2,.string s,.int .i64 0,.slice none 0 0,.int .i64 0] 71 (0,0)):=by rw [Sl];exact anm wm _
   obtain ⟨wl,Sm⟩:∃ wl,wl=wn.alloc (.cells #[.int .i64 1,.string ⟨#[]⟩,.int .i64 0,.slice (some ⟨wm.heap.size,0,none⟩) 1 1,.int .i64 0] 71):=⟨_,rfl⟩
   have hbl:Below wn.heap.size wn wl:=by rw [Sm];exact (anl _ _).alloc (ank _) _
   have hsl:wl.heap.size=wm.heap.size+2:=by rw [Sm];simp;omega
   have HTB:Hid (wl.heap[wm.heap.size+1]?=some (.cells #[.int .i64 1,.string ⟨#[]⟩,.int .i64 0,.slice (some ⟨wm.heap.size,0,none⟩) 1 1,.int .i64 0] 71 (0,0))):=anc (by rw [Sm,← hsn];exact anm wn _)
   have HOB:Hid (wl.ownsRow wm.heap.size 71 5 (.slice (some ⟨wm.heap.size,0,none⟩) 1 1) 1 (aO [((.mk 2 s 0 [] 0:T),none,0)])):=anc ⟨rfl,.inr ⟨wm.heap.size,1,_,rfl,ank _,(hbl.block _ (by omega)).trans hnn,ank _,by decide,rfl,rfl⟩⟩
   have Gm:Below wm.heap.size wm wl:=hbn.trans (hbl.mono (by omega))
   have HBL:=anc (VV.out.trans (Gm.mono (by omega)))
   have BO:=anc ((Gm.block w.heap.size (by omega)).trans Yq.out)
   have HRL:=anc ((Gm.block (w.heap.size+1) (by omega)).trans Sj.out)
   have HWL:=anc (show wl=(wm.alloc (.cells #[.int .i64 2,.string s,.int .i64 0,.slice none 0 0,.int .i64 0] 71)).alloc (.cells #[.int .i64 1,.string ⟨#[]⟩,.int .i64 0,.slice (some ⟨wm.heap.size,0,none⟩) 1 1,.int .i64 0] 71) by rw [Sm,Sl])
   have YR:=anc hk
   clear Sl hbn hnn Sm hbl Gm wn hsn hk h0 hl
   go_upto_region 11 with (fail)
   rw [← HWL.out]
   obtain ⟨⟨k0,k1,k2,k3⟩,_,_,_,_⟩:=bQ BO.out
   go_wp2_with fail
   go_loopw [35] (fun i wr=>∃ (j:Nat)(ps:List TP)(v:Value),j≤ln∧ps.length=j+1∧i=.int .i64 j∧wr.heap[wm.heap.size+1]?=some (.cells #[.int .i64 1,.string ⟨#[]⟩,.int .i64 0,v,.int .i64 0] 71 (0,0)) ∧
    wr.ownsRow wm.heap.size 71 5 v (j+1) (aO ps)∧v.ownBlock≠some (wm.heap.size+1)∧Hid (∀ p ∈ ps,p.1.kids.length≤p.2.2∧ku wr (fun k=>wl.heap.size≤k∧k < wr.heap.size∧v.ownBlock≠some k) p.2.1 p.1.kids)∧Below wm.heap.size wl wr∧Hid (ps.map Prod.fst=.mk 2 s 0 [] 0 :: (jc l).take j)) (fun i _=>ln - (intOf i).toNat)
   case atStart=>exact ⟨0,[((.mk 2 s 0 [] 0:T),none,0)],_,Nat.zero_le _,rfl,rfl,HTB.out,HOB.out,by simp [Value.ownBlock],anc (pG s _ _),anl _ _,anc (by simp)⟩
   case round =>
    obtain ⟨j,ps,v,hj,hpl,rfl,hbox,hown,hvt,hxk,hb,hzl⟩:=hrel
    have HO:=anc hown
    have HB:=anc hb
    have hs:=hb.size
    have jI:=anc hpl
    have iJ:=anc hbox
    have YY:=anc hvt
    have dC:=anc (HBL.out.trans (hb.mono (by omega)))
    clear hown hpl hbox hvt hb
    by_cases hlt2:j < ln
    ·obtain ⟨x,hx⟩:∃ x,l[j]?=some x:=⟨_,anr (by rw [← jh.out];exact hlt2)⟩
     obtain ⟨b,o,A',c',rfl,Gn,c0,c1,c2,c3,hKx⟩:=eQ.cu HK.out wr dC.out j x hx
     have Bv:=HM.out x (anq hx) (YR.out x (anq hx))
     have htk:Hid ((jc l).take (j+1)=(jc l).take j ++ [dm x]):=anc (BN hx)
     obtain ⟨wx,dN⟩:∃ wx,wx=wr.alloc (.cells #[.int .i64 x.k,.string x.s,.int .i64 x.n,.slice A' x.kids.length c'] 38):=⟨_,rfl⟩
     have hbx:Below wr.heap.size wr wx:=by rw [dN];exact (anl _ _).alloc (ank _) _
     have hsx:wx.heap.size=wr.heap.size+1:=by rw [dN];simp
     have hnx:wx.heap[wr.heap.size]?=some (.cells #[.int .i64 x.k,.string x.s,.int .i64 x.n,.slice A' x.kids.length c'] 38 (0,0)):=by rw [dN];exact anm wr _
     have hbd:Below wr.heap.size wr wx.drew:=hbx.drew
     have jq:=anc (Bv A' c' wx.drew ((hKx.low hbd).more hbd.size))
     have HXB:=anc ((hbx.block (wm.heap.size+1) (by omega)).trans iJ.out)
     have YZ:=anc (own_below HO.out hbx)
     have vH:=anc hbx
     have jM:=anc dN
     have Aa:=anc hnx
     have aeI:x.kids.length=x.kids.length:=rfl
     obtain ⟨y,hy⟩:∃ y,y=dm x:=⟨_,rfl⟩
     rw [← hy] at jq htk
     clear dN hbx hnx hx hKx Bv hbd hy aeI
     obtain ⟨xk,xs,xn,xl⟩:=x
     obtain ⟨tk,ts,tn,tl,ta⟩:=y
     simp only [E.val,E.k,E.s,E.n,E.kids,T.val,T.k,T.s,T.n,T.kids,T.at_] at c0 c1 c2 c3 jq jM Aa
     generalize xl.length=xm at *
     obtain ⟨⟨n0,n1,n2,n3⟩,_,_,_,_⟩:=bQ Aa.out
     obtain ⟨⟨k0,k1,k2,k3,k4⟩,f0,f1,f2,f3,f4⟩:=ay HXB.out
     go_upto_region 14 with (fail)
     rw [← jM.out]
     go_region_law (first
      | (refine step_append_lies _ rfl _ _ _ rfl wm.heap.size 71 i0 _ 5 64 Tryz.underlying69 hi hz0 hz1 hz2 rfl (by decide) _ _ _ rfl (Kw.out.alloc _) ⟨w3.heap.size,0,none⟩ 1 1 (TP.cs ((.mk tk ts tn tl ta:T),A3,c3')) rfl rfl (World.news_of_block (anm w3 _)) (by rw [← bD];exact bG _) (by decide) (by unfold maxLen;omega) (by omega) (by simp;omega) _ rfl ?_;intro g cap w5 hown5 hgrow hat hlt
         have fV:=anc hown5
         have qx:Hid (w3.grownBy w5 v.ownBlock):=anc ((World.grownBy_alloc _ _ _).trans hgrow)
         have gY:Hid ((Value.slice (some ⟨g,0,none⟩) (j+1+1) cap).ownBlock=v.ownBlock∨∃ n,(Value.slice (some ⟨g,0,none⟩) (j+1+1) cap).ownBlock=some n∧w3.heap.size≤n):=anc (hat.imp (fun h=>h.symm) fun h=>⟨g,rfl,by rw [h];simp⟩)
         have Lj:=anc ((qx.out.block (wm.heap.size+1) (by omega) (fun e=>YY.out e.symm)).trans IM.out)
         obtain ⟨⟨p0,p1,p2,p3,p4⟩,q0,q1,q2,q3,q4⟩:=ay Lj.out
         clear hown5 hgrow hat)
      | (go_simp;go_at_call 67;refine (jq.out).mono ?_;rintro e w3 ⟨⟨A3,c3',rfl,hc3,hX⟩,hb3⟩
         have mP:=anc hX
         have HB3:Hid (Below wr.heap.size wr w3):=anc ((vH.out.drew).trans (hb3.mono (by simp;omega)))
         have Kw:=anc (own_below HO.out HB3.out)
         have aeJ:wr.heap.size+1≤w3.heap.size:=by have:=hb3.size;simp at this;omega
         have IM:=anc ((HB3.out.block (wm.heap.size+1) (by omega)).trans iJ.out)
         have g3:w3.cell? ⟨wm.heap.size+1,3,none⟩=some v:=(ay IM.out).1.2.2.2.1
         have Ro:(w3.alloc (.cells #[.int .i64 tk,.string ts,.int .i64 tn,.slice A3 tl.length c3',.int .i64 ta] 71)).cell? ⟨wm.heap.size+1,3,none⟩=some v:=(World.cell?_alloc_some _ _ _ (by rw [g3];rfl)).trans g3
         clear hX hb3))
     all_goals
      go_wp2_with fail
      go_roundw
      case measure=>simp [intOf];omega
      case rel =>
       have hs5:=qx.out.size
       have hgt:g≠wm.heap.size+1:=fun e=>by
        rcases gY.out with h | ⟨n,h,h2⟩
        ·exact YY.out (by rw [← h];simp [Value.ownBlock,e])
        ·have:n=g:=by simpa [Value.ownBlock] using h.symm
         omega
       have hother:∀ k,k≠wm.heap.size+1→k < w3.heap.size→v.ownBlock≠some k→(w5.setCell ⟨wm.heap.size+1,3,none⟩ (.slice (some ⟨g,0,none⟩) (j+1+1) cap)).heap[k]?=w3.heap[k]?:=fun k h1 h2 h3 =>
        (ann w5 ⟨wm.heap.size+1,3,none⟩ _ k h1).trans (qx.out.block k (by omega) fun e=>h3 e.symm)
       refine ⟨j+1,ps ++ [((.mk tk ts tn tl ta:T),A3,c3')],.slice (some ⟨g,0,none⟩) (j+1+1) cap,by omega,by rw [List.length_append,jI.out];rfl,by go_num,kV (k:=3) Lj.out,?_,by simpa [Value.ownBlock] using hgt,anc ?_,?_,anc ?_⟩
       ·rw [fZ,bD]
        exact kN fV.out (ann w5 ⟨wm.heap.size+1,3,none⟩ _ g hgt)
       ·refine Iy hxk.out hc3 (mP.out.mono fun k hk=>⟨by have:=hk.1;simp at this;omega,hk.2⟩) (by omega) (fun k h1 h2 h3=>(hother k (by omega) (by omega) h3).trans (HB3.out.block k h2)) (fun k h1 h2=>hother k (by omega) (by omega) fun e=>by have:=(HO.out.lt _ e).2;omega) (by omega) ?_ (fun k e=>(HO.out.lt _ e).2) gY.out
        simp only [World.setCell,Array.size_modify]
        omega
       ·exact ((HB.out.trans (HB3.out.mono (by omega))).grown qx.out (by omega) (fun g hg=>by have:=(HO.out.lt g hg).1;omega)).setCell (p:=⟨wm.heap.size+1,3,none⟩) (by show wm.heap.size≤wm.heap.size+1;omega) _
       ·rw [htk.out,List.map_append,hzl.out];rfl
    ·obtain rfl:j=ln:=by omega
     have hps:ps.map Prod.fst=.mk 2 s 0 [] 0 :: jc l:=by rw [hzl.out,jh.out,← qp,List.take_length]
     have hO2:wr.ownsRow wm.heap.size 71 5 v ps.length (aO ps):=by rw [jI.out];exact HO.out
     obtain ⟨A9,c9,rfl,Gp,wG⟩:=oV hO2 (by rw [jI.out];omega) (S:=fun k=>w.heap.size+2≤k∧k < wr.heap.size) (fun g u1 u2=>⟨by omega,u2⟩) (fun p hp=>⟨(hxk.out p hp).1,(hxk.out p hp).2.mono (fun k hk=>⟨by have:=hk.1;omega,hk.2.1⟩)⟩)
     rw [hps] at Gp wG iJ
     have EE:=anc wG
     have HC9:=anc Gp
     have ET:Hid (wr.heap[w.heap.size+1]?=some (.cells #[.int .i64 0,.string ⟨#[]⟩,.int .i64 0,.slice none 0 0,.int .i64 0] 71 (0,0))):=anc ((HB.out.block _ (by omega)).trans HRL.out)
     obtain ⟨⟨k0,k1,k2,k3,k4⟩,f0,f1,f2,f3,f4⟩:=ay iJ.out
     obtain ⟨⟨q0,q1,q2,q3,q4⟩,e0,e1,e2,e3,e4⟩:=ay ET.out
     clear hO2 wG hxk hzl hps Gp
     go_wp2_with fail
     refine ano (gm rfl rfl (aB ET.out)) rfl ?_
     rw [Gl.out,xw]
     refine ⟨⟨A9,c9,rfl,HC9.out,?_⟩,aC dC.out (Nat.le_succ _)⟩
     exact (EE.out.kept (fun k hk=>kZ (by have:=hk.1;omega))).mono (fun k hk=>⟨by have:=hk.1;omega,anu hk.2 oW.symm⟩)
theorem IP:∀ e,Lh e:=E.ind (fun k s n l h=>Pm k s n l h)
theorem rW {w w':World} {B n:Nat} {e:TypeId} {z:Nat} {v:Value} {xs:List Value} (h:w.ownsRow B e z v n xs)(hb:∀ k,v.ownBlock=some k→w'.heap[k]?=w.heap[k]?):w'.ownsRow B e z v n xs:=by
 refine ⟨h.1,?_⟩
 rcases h.2 with hn | ⟨g',cap,cur,rfl,hg',hgg,rest⟩
 ·exact .inl hn
 ·exact .inr ⟨g',cap,cur,rfl,hg',by rw [hb g' rfl];exact hgg,rest⟩
structure Ll (g pb:Nat)(w2:World)(B:Nat)(v2 v3:Value)(ps:List EP)(cs:List ByteArray)(st:eY)(wr:World):Prop where
 box:wr.heap[pb]?=some (.cells #[.int .i64 3,.string ⟨#[]⟩,v2,v3,.slice none 0 0,.slice none 0 0,.slice none 0 0,.slice none 0 0] 27 (0,0))
 pI:wr.ownsRow B 9 1 v3 cs.length (strs cs)
 qY:wr.ownsRow B 38 4 v2 ps.length (iZ ps)
 kids:∀ p ∈ ps,gy wr (fun k=>B≤k∧k < wr.heap.size∧v2.ownBlock≠some k∧v3.ownBlock≠some k) p.2.1 p.1.kids
 apart:∀ k,v2.ownBlock=some k→v3.ownBlock≠some k
 only:Only g w2 wr
 size:B≤wr.heap.size
 rd:qo wr g st
theorem Ll.EU {g pb B:Nat} {w2 wr w':World} {v2 v3:Value} {ps:List EP} {cs:List ByteArray} {st st':eY} (h:Ll g pb w2 B v2 v3 ps cs st wr)(ho:Only g wr w')(hr:qo w' g st')(hg:g < pb)(hp:pb < B):Ll g pb w2 B v2 v3 ps cs st' w':=by
 have hs:=h.size
 have hs':=ho.size
 exact ⟨(ho.block pb (by omega) (by omega)).trans h.box,rM h.pI ho (by omega),rM h.qY ho (by omega),
  fun p hp'=>((h.kids p hp').kept fun k hk=>ho.block k hk.2.1 (by have:=hk.1;omega)).mono fun k hk=>⟨hk.1,by have:=hk.2.1;omega,hk.2.2⟩,h.apart,h.only.trans ho,by omega,hr⟩
theorem Ad (a b:List ByteArray):strs (a ++ b)=strs a ++ strs b:=by simp [strs]
theorem Ll.step3 {g pb B g' cap:Nat} {w2 w3 w5:World} {v2 v3:Value} {ps:List EP} {cs:List ByteArray} {s:ByteArray} {st:eY} (h:Ll g pb w2 B v2 v3 ps cs st w3)(hg5:w3.grownBy w5 v3.ownBlock)
 (dP:w5.ownsRow B 9 1 (.slice (some ⟨g',0,none⟩) (cs.length+1) cap) (cs.length+1) (strs cs ++ [.string s]))
 (hat:(Value.slice (some ⟨g',0,none⟩) (cs.length+1) cap).ownBlock=v3.ownBlock∨∃ n,(Value.slice (some ⟨g',0,none⟩) (cs.length+1) cap).ownBlock=some n∧w3.heap.size≤n)
 (hg:g < pb)(hp:pb < B)(hw:w2.heap.size≤pb):Ll g pb w2 B v2 (.slice (some ⟨g',0,none⟩) (cs.length+1) cap) ps (cs ++ [s]) st (w5.setCell ⟨pb,3,none⟩ (.slice (some ⟨g',0,none⟩) (cs.length+1) cap)):=by
 have hs:=h.size
 have hs5:=hg5.size
 have h3:∀ k,v3.ownBlock=some k→B≤k∧k < w3.heap.size:=fun k e=>h.pI.lt k e
 have h2:∀ k,v2.ownBlock=some k→B≤k∧k < w3.heap.size:=fun k e=>h.qY.lt k e
 have hne:g'≠pb:=fun e=>by
  rcases hat with h | ⟨n,h,hn⟩
  ·have:=h3 g' (by rw [← h];rfl);omega
  ·have:n=g':=by simpa [Value.ownBlock] using h.symm
   omega
 have hoth:∀ k,k≠pb→k < w3.heap.size→v3.ownBlock≠some k→(w5.setCell ⟨pb,3,none⟩ (.slice (some ⟨g',0,none⟩) (cs.length+1) cap)).heap[k]?=w3.heap[k]?:=fun k a1 a2 a3 =>
  (ann w5 ⟨pb,3,none⟩ _ k a1).trans (hg5.block k a2 fun e=>a3 e.symm)
 have hz:(w5.setCell ⟨pb,3,none⟩ (.slice (some ⟨g',0,none⟩) (cs.length+1) cap)).heap.size=w5.heap.size:=by simp [World.setCell]
 have hv:∀ k,k < w3.heap.size→v3.ownBlock≠some k→(Value.slice (some ⟨g',0,none⟩) (cs.length+1) cap).ownBlock≠some k:=fun k a1 a2=>by
  rcases hat with h | ⟨n,h,hn⟩
  ·rw [h];exact a2
  ·rw [h];intro e;have:=Option.some.inj e;omega
 refine ⟨fQ (k:=3) ((hg5.block pb (by omega) fun e=>by have:=(h3 pb e.symm).1;omega).trans h.box),?_,?_,?_,?_,?_,by omega,?_⟩
 ·rw [List.length_append,List.length_singleton,Ad]
  exact kN dP (ann w5 ⟨pb,3,none⟩ _ g' hne)
 ·exact rW h.qY fun k e=>hoth k (by have:=(h2 k e).1;omega) (h2 k e).2 (h.apart k e)
 ·intro p hp'
  exact ((h.kids p hp').kept fun k hk=>hoth k (by have:=hk.1;omega) hk.2.1 hk.2.2.2).mono fun k hk=>⟨hk.1,by have:=hk.2.1;omega,hk.2.2.1,hv k hk.2.1 hk.2.2.2⟩
 ·exact fun k e=>hv k (h2 k e).2 (h.apart k e)
 ·exact (h.only.grown hg5 (fun k e=>by have:=(h3 k e).1;omega)).aA (p:=⟨pb,3,none⟩) hw _
 ·exact (ann w5 ⟨pb,3,none⟩ _ g (by show g≠pb;omega)).trans ((hg5.block g h.rd.lt (fun e=>by have:=(h3 g e.symm).1;omega)).trans h.rd)
theorem Ll.step2 {g pb B g' cap sz:Nat} {w2 w3 w5:World} {v2 v3:Value} {ps:List EP} {cs:List ByteArray} {x:EP} {st:eY} (h:Ll g pb w2 B v2 v3 ps cs st w3)(hg5:w3.grownBy w5 v2.ownBlock)
 (dP:w5.ownsRow B 38 4 (.slice (some ⟨g',0,none⟩) (ps.length+1) cap) (ps.length+1) (iZ ps ++ EP.cs x))
 (hat:(Value.slice (some ⟨g',0,none⟩) (ps.length+1) cap).ownBlock=v2.ownBlock∨∃ n,(Value.slice (some ⟨g',0,none⟩) (ps.length+1) cap).ownBlock=some n∧w3.heap.size≤n)
 (hx:gy w3 (fun k=>sz≤k∧k < w3.heap.size) x.2.1 x.1.kids)(hsz:B≤sz)(hz2:∀ k,v2.ownBlock=some k→k < sz)(hz3:∀ k,v3.ownBlock=some k→k < sz)
 (hg:g < pb)(hp:pb < B)(hw:w2.heap.size≤pb):Ll g pb w2 B (.slice (some ⟨g',0,none⟩) (ps.length+1) cap) v3 (ps ++ [x]) cs st (w5.setCell ⟨pb,2,none⟩ (.slice (some ⟨g',0,none⟩) (ps.length+1) cap)):=by
 have hs:=h.size
 have hs5:=hg5.size
 have h3:∀ k,v3.ownBlock=some k→B≤k∧k < w3.heap.size:=fun k e=>h.pI.lt k e
 have h2:∀ k,v2.ownBlock=some k→B≤k∧k < w3.heap.size:=fun k e=>h.qY.lt k e
 have hne:g'≠pb:=fun e=>by
  rcases hat with h | ⟨n,h,hn⟩
  ·have:=h2 g' (by rw [← h];rfl);omega
  ·have:n=g':=by simpa [Value.ownBlock] using h.symm
   omega
 have hoth:∀ k,k≠pb→k < w3.heap.size→v2.ownBlock≠some k→(w5.setCell ⟨pb,2,none⟩ (.slice (some ⟨g',0,none⟩) (ps.length+1) cap)).heap[k]?=w3.heap[k]?:=fun k a1 a2 a3 =>
  (ann w5 ⟨pb,2,none⟩ _ k a1).trans (hg5.block k a2 fun e=>a3 e.symm)
 have hz:(w5.setCell ⟨pb,2,none⟩ (.slice (some ⟨g',0,none⟩) (ps.length+1) cap)).heap.size=w5.heap.size:=by simp [World.setCell]
 have hv:∀ k,k < w3.heap.size→v2.ownBlock≠some k→(Value.slice (some ⟨g',0,none⟩) (ps.length+1) cap).ownBlock≠some k:=fun k a1 a2=>by
  rcases hat with h | ⟨n,h,hn⟩
  ·rw [h];exact a2
  ·rw [h];intro e;have:=Option.some.inj e;omega
 refine ⟨fQ (k:=2) ((hg5.block pb (by omega) fun e=>by have:=(h2 pb e.symm).1;omega).trans h.box),?_,?_,?_,?_,?_,by omega,?_⟩
 ·exact rW h.pI fun k e=>hoth k (by have:=(h3 k e).1;omega) (h3 k e).2 (fun e2=>h.apart k e2 e)
 ·rw [List.length_append,List.length_singleton,mf,kY]
  exact kN dP (ann w5 ⟨pb,2,none⟩ _ g' hne)
 ·intro p hp'
  rcases List.mem_append.1 hp' with hp' | hp'
  ·exact ((h.kids p hp').kept fun k hk=>hoth k (by have:=hk.1;omega) hk.2.1 hk.2.2.1).mono fun k hk=>⟨hk.1,by have:=hk.2.1;omega,hv k hk.2.1 hk.2.2.1,hk.2.2.2⟩
  ·obtain rfl:p=x:=by simpa using hp'
   have a2:∀ k,sz≤k→v2.ownBlock≠some k:=fun k hk e=>by have:=hz2 k e;omega
   have a3:∀ k,sz≤k→v3.ownBlock≠some k:=fun k hk e=>by have:=hz3 k e;omega
   exact (hx.kept fun k hk=>hoth k (by have:=hk.1;omega) hk.2 (a2 k hk.1)).mono fun k hk=>⟨by have:=hk.1;omega,by have:=hk.2;omega,hv k hk.2 (a2 k hk.1),a3 k hk.1⟩
 ·intro k e e3
  exact hv k (h3 k e3).2 (fun e2=>h.apart k e2 e3) e
 ·exact (h.only.grown hg5 (fun k e=>by have:=(h2 k e).1;omega)).aA (p:=⟨pb,2,none⟩) hw _
 ·exact (ann w5 ⟨pb,2,none⟩ _ g (by show g≠pb;omega)).trans ((hg5.block g h.rd.lt (fun e=>by have:=(h2 g e.symm).1;omega)).trans h.rd)
def lX (c:T):ByteArray:=(c.kids.getD 0 aH).s
def uI (c:T):E:=(aI (c.kids.getD 1 aH)).1
def Y0 (g pb:Nat)(w2:World)(B:Nat)(mid:List T)(st:eY)(i:Value)(wr:World):Prop :=
 ∃ (j:Nat)(ps:List EP)(v2 v3:Value),j≤mid.length∧i=.int .i64 j∧ps.map Prod.fst=(mid.take j).map uI∧Ll g pb w2 B v2 v3 ps ((mid.take j).map lX) (nT (mid.take j) st) wr
def abP (g pb:Nat)(w2:World)(B q:Nat)(x:T)(A2:Option Addr)(c2:Nat)(v2:Value)(ps:List EP)(cs:List ByteArray)(st:eY)(wx:World):Prop :=
 ∃ v3,Ll g pb w2 B v2 v3 ps cs st wx∧wx.heap[q]?=some (.cells #[.int .i64 x.k,.string x.s,.int .i64 x.n,.slice A2 x.kids.length c2,.int .i64 x.at_] 71 (0,0))∧v2.ownBlock≠some q∧v3.ownBlock≠some q
theorem BP {l:List T} {j:Nat} {x:T} (h:l[j]?=some x)(st:eY):nT (l.take (j+1)) st=kW (x.kids.getD 1 aH) (eF (x.kids.getD 0 aH) (nT (l.take j) st)):=by
 unfold nT
 rw [List.take_add_one,h,List.foldl_append]
 rfl
theorem iD {α:Type} (f:T→α) {l:List T} {j:Nat} {x:T} (h:l[j]?=some x):(l.take (j+1)).map f=(l.take j).map f ++ [f x]:=by
 rw [List.take_add_one,h,List.map_append]
 rfl
theorem Bc {l:List T} {i m:Nat} (h:l.length=m+i+1):(bT l i).length=m:=by
 unfold bT
 rw [List.length_take,List.length_drop]
 omega
theorem Bd {l:List T} {i m j:Nat} (h:l.length=m+i+1)(hj:j < m):(bT l i)[j]?=l[i+j]?:=by
 unfold bT
 rw [List.getElem?_take,if_pos (by omega),List.getElem?_drop]
theorem EW {ln m i c:Nat} (h:ln=m+i+1)(hc:ln≤c)(h6:ln≤600):∃ e:Nat,(ln:Int) - 1=(e:Int)∧wrap64 (e:Int)=(e:Int)∧(i:Int)≤(e:Int)∧i≤e∧e≤c∧(e:Int)≤(c:Int)∧e - i=m∧(e:Int) - (i:Int)=(m:Int)∧¬ c=i∧i≤c :=
 ⟨m+i,by omega,IntWalk.wrap64_in _ (by omega),by omega,by omega,by omega,by omega,by omega,by omega,by omega,by omega⟩
theorem Ae {x:T} (h:aW x=true):∃ y z,x.kids=[y,z]∧x.kids.length=2:=by
 unfold aW at h
 simp at h
 match hk:x.kids,h.2.1 with
 | [y,z],_=>exact ⟨y,z,rfl,rfl⟩
structure Pn (g pb:Nat)(w2:World)(B:Nat)(lv v:Value)(gs:List Ag)(st:eY)(wr:World):Prop where
 box:wr.heap[pb]?=some (.cells #[.int .i64 7,.string ⟨#[]⟩,.slice none 0 0,.slice none 0 0,lv,.slice none 0 0,v,.slice none 0 0] 27 (0,0))
 own:wr.ownsRow B 46 3 v gs.length (fB gs)
 only:Only g w2 wr
 size:B≤wr.heap.size
 rd:qo wr g st
theorem Pn.EU {g pb B:Nat} {w2 wr w':World} {lv v:Value} {gs:List Ag} {st st':eY} (h:Pn g pb w2 B lv v gs st wr)(ho:Only g wr w')(hr:qo w' g st')(hg:g < pb)(hp:pb < B):Pn g pb w2 B lv v gs st' w':=by
 have hs:=h.size
 have hs':=ho.size
 exact ⟨(ho.block pb (by omega) (by omega)).trans h.box,rM h.own ho (by omega),h.only.trans ho,by omega,hr⟩
theorem Lm (l:List Ag):∀ u ∈ fB l,u.oneCell'=true:=by
 intro u hu
 obtain ⟨v,_,hv⟩:=List.mem_flatMap.1 hu
 simp only [Ag.cs,List.mem_cons,List.not_mem_nil,or_false] at hv
 rcases hv with rfl | rfl | rfl <;> rfl
theorem Pn.step {g pb B g' cap:Nat} {w2 w3 w5:World} {lv v:Value} {gs:List Ag} {x:Ag} {st:eY} (h:Pn g pb w2 B lv v gs st w3)(hg5:w3.grownBy w5 v.ownBlock)
 (dP:w5.ownsRow B 46 3 (.slice (some ⟨g',0,none⟩) (gs.length+1) cap) (gs.length+1) (fB gs ++ Ag.cs x))
 (hat:(Value.slice (some ⟨g',0,none⟩) (gs.length+1) cap).ownBlock=v.ownBlock∨∃ n,(Value.slice (some ⟨g',0,none⟩) (gs.length+1) cap).ownBlock=some n∧w3.heap.size≤n)
 (hg:g < pb)(hp:pb < B)(hw:w2.heap.size≤pb):Pn g pb w2 B lv (.slice (some ⟨g',0,none⟩) (gs.length+1) cap) (gs ++ [x]) st (w5.setCell ⟨pb,6,none⟩ (.slice (some ⟨g',0,none⟩) (gs.length+1) cap)):=by
 have hs:=h.size
 have hs5:=hg5.size
 have h2:∀ k,v.ownBlock=some k→B≤k∧k < w3.heap.size:=fun k e=>h.own.lt k e
 have hne:g'≠pb:=fun e=>by
  rcases hat with h | ⟨n,h,hn⟩
  ·have:=h2 g' (by rw [← h];rfl);omega
  ·have:n=g':=by simpa [Value.ownBlock] using h.symm
   omega
 have hz:(w5.setCell ⟨pb,6,none⟩ (.slice (some ⟨g',0,none⟩) (gs.length+1) cap)).heap.size=w5.heap.size:=by simp [World.setCell]
 refine ⟨fQ (k:=6) ((hg5.block pb (by omega) fun e=>by have:=(h2 pb e.symm).1;omega).trans h.box),?_,?_,by omega,?_⟩
 ·rw [List.length_append,List.length_singleton,wW,yP]
  exact kN dP (ann w5 ⟨pb,6,none⟩ _ g' hne)
 ·exact (h.only.grown hg5 (fun k e=>by have:=(h2 k e).1;omega)).aA (p:=⟨pb,6,none⟩) hw _
 ·exact (ann w5 ⟨pb,6,none⟩ _ g (by show g≠pb;omega)).trans ((hg5.block g h.rd.lt (fun e=>by have:=(h2 g e.symm).1;omega)).trans h.rd)
def nG (c:T):Ag:=kU c.kids
def VW (g pb:Nat)(w2:World)(B:Nat)(lv:Value)(mid:List T)(st:eY)(wl:World)(i:Value)(wr:World):Prop :=
 ∃ (j:Nat)(v:Value),j≤mid.length∧i=.int .i64 j∧Pn g pb w2 B lv v ((mid.take j).map nG) (l7 (mid.take j) st) wr∧(∀ k,pb < k→k < B→wr.heap[k]?=wl.heap[k]?)
theorem BQ {l:List T} {j:Nat} {x:T} (h:l[j]?=some x)(st:eY):l7 (l.take (j+1)) st=mg x.kids (l7 (l.take j) st):=by
 unfold l7
 rw [List.take_add_one,h,List.foldl_append]
 rfl
theorem Po {g pb B:Nat} {w2 wr:World} {mid:List T} {st:eY} {j:Nat} {x y z:T} {ps:List EP} {v2 v3:Value} {A:Option Addr} {c:Nat} (hx:mid[j]?=some x)(hk:x.kids=[y,z])
 (hps:ps.map Prod.fst=(mid.take j).map uI)(h:Ll g pb w2 B v2 v3 (ps ++ [((aI z).1,A,c)]) ((mid.take j).map lX ++ [y.s]) (kW z (eF y (nT (mid.take j) st))) wr):Y0 g pb w2 B mid st (.int .i64 ((j:Int)+1)) wr:=by
 have hj:j < mid.length:=(List.getElem?_eq_some_iff.1 hx).1
 refine ⟨j+1,ps ++ [((aI z).1,A,c)],v2,v3,hj,by simp,?_,?_⟩
 ·rw [iD uI hx,List.map_append,hps]
  unfold uI
  rw [hk]
  rfl
 ·have e1:(mid.take (j+1)).map lX=(mid.take j).map lX ++ [y.s]:=by
   rw [iD lX hx]
   unfold lX
   rw [hk]
   rfl
  have e2:nT (mid.take (j+1)) st=kW z (eF y (nT (mid.take j) st)):=by
   rw [BP hx,hk]
   rfl
  rw [e1,e2]
  exact h
theorem Pq {g pb B g' cap:Nat} {w2 wl wr w3 w5:World} {lv v:Value} {mid:List T} {st:eY} {j:Nat} {x:T} (hx:mid[j]?=some x)(hr:Pn g pb w2 B lv v ((mid.take j).map nG) (l7 (mid.take j) st) wr)(hold:∀ k,pb < k→k < B→wr.heap[k]?=wl.heap[k]?)
 (ho:Only g wr w3)(h:Pn g pb w2 B lv v ((mid.take j).map nG) (mg x.kids (l7 (mid.take j) st)) w3)(hg5:w3.grownBy w5 v.ownBlock)
 (dP:w5.ownsRow B 46 3 (.slice (some ⟨g',0,none⟩) (j+1) cap) (j+1) (fB ((mid.take j).map nG) ++ Ag.cs (nG x)))
 (hat:(Value.slice (some ⟨g',0,none⟩) (j+1) cap).ownBlock=v.ownBlock∨∃ n,(Value.slice (some ⟨g',0,none⟩) (j+1) cap).ownBlock=some n∧w3.heap.size≤n)
 (hg:g < pb)(hp:pb < B)(hw:w2.heap.size≤pb):VW g pb w2 B lv mid st wl (.int .i64 ((j:Int)+1)) (w5.setCell ⟨pb,6,none⟩ (.slice (some ⟨g',0,none⟩) (j+1) cap)):=by
 have hj:j < mid.length:=(List.getElem?_eq_some_iff.1 hx).1
 have hl:((mid.take j).map nG).length=j:=by rw [List.length_map,List.length_take];omega
 have hs:=hr.size
 have hs3:=ho.size
 have h2:∀ k,v.ownBlock=some k→B≤k∧k < wr.heap.size:=fun k e=>hr.own.lt k e
 refine ⟨j+1,.slice (some ⟨g',0,none⟩) (j+1) cap,hj,by simp,?_,?_⟩
 ·rw [iD nG hx,BQ hx]
  have:=Pn.step (g':=g') (cap:=cap) (x:=nG x) h hg5 (by rw [hl];exact dP) (by rw [hl];exact hat) hg hp hw
  rw [hl] at this
  exact this
 ·intro k k1 k2
  exact (ann w5 ⟨pb,6,none⟩ _ k (by show k≠pb;omega)).trans ((hg5.block k (by omega) fun e=>by have:=(h2 k e.symm).1;omega).trans ((ho.block k (by omega) (by omega)).trans (hold k k1 k2)))
theorem Sr {l:List T} {ln c g p2 p3:Nat} (hl:ln=l.length)(h2:3≤l.length)(hc:l.length≤c)(h6:l.length≤600)(hg:g < p2)(hp:p2 < p3):∃ m e:Nat,∃ y:T,l[0]?=some y∧l.length=m+1+1∧(ln:Int) - 1=(e:Int)∧wrap64 (e:Int)=(e:Int)∧(1:Int)≤(e:Int)∧1≤e ∧
 e≤c∧(e:Int)≤(c:Int)∧e - 1=m∧(e:Int) - 1=(m:Int)∧¬ c=1∧1≤c∧m≤600∧aJ 3≤l.length∧g≤p3∧g < p3:=by
 obtain ⟨e,a1,a2,a3,a4,a5,a6,a7,a8,a9,a10⟩:=EW (ln:=ln) (m:=ln - 2) (i:=1) (c:=c) (by omega) (by omega) (by omega)
 exact ⟨ln - 2,e,_,anr (by omega),by omega,a1,a2,a3,a4,a5,a6,a7,a8,a9,a10,by omega,by rw [show aJ 3=1 from rfl];omega,by omega,by omega⟩
theorem Su {l:List T} {ln c g p2 p3:Nat} (hl:ln=l.length)(h2:3≤l.length)(hc:l.length≤c)(h6:l.length≤600)(hg:g < p2)(hp:p2 < p3):∃ m e:Nat,∃ y x:T,l[0]?=some y∧l[1]?=some x∧l.length=m+2+1∧(ln:Int) - 1=(e:Int)∧wrap64 (e:Int)=(e:Int)∧(2:Int)≤(e:Int)∧2≤e ∧
 e≤c∧(e:Int)≤(c:Int)∧e - 2=m∧(e:Int) - 2=(m:Int)∧¬ c=2∧2≤c∧m≤600∧aJ 7≤l.length∧g≤p3∧g < p3∧1 < ln∧(1:Int) < (ln:Int):=by
 obtain ⟨e,a1,a2,a3,a4,a5,a6,a7,a8,a9,a10⟩:=EW (ln:=ln) (m:=ln - 3) (i:=2) (c:=c) (by omega) (by omega) (by omega)
 exact ⟨ln - 3,e,_,_,anr (by omega),anr (by omega),by omega,a1,a2,a3,a4,a5,a6,a7,a8,a9,a10,by omega,by rw [show aJ 7=1 from rfl];omega,by omega,by omega,by omega,by omega⟩
def VX (g pb:Nat)(w2:World)(kd:Int)(l:List T)(st:eY)(s7:Value)(wx:World):Prop :=
 ∃ a0:PA,s7=.int .i64 (aJ kd)∧(aJ kd=1∨aJ kd=2)∧aJ kd≤l.length∧wx.heap[pb]?=some (.cells #[.int .i64 (aT kd l).k,.string (aT kd l).nm,.slice a0.ea (aT kd l).ex.length a0.ec,.slice a0.ca (aT kd l).cols.length a0.cc,.slice a0.la (aT kd l).left.length a0.lc,.slice a0.ra (aT kd l).right.length a0.rc,.slice a0.ga (aT kd l).ag.length a0.gc,.slice none 0 0] 27 (0,0)) ∧
   lq wx (fun k=>pb < k∧k < wx.heap.size) (aT kd l) a0∧Only g w2 wx∧qo wx g st
def oG:PA:=⟨none,0,none,0,none,0,none,0,none,0,none,0⟩
theorem iV (w:World)(S:Nat→Prop)(kd:Int)(s:ByteArray):lq w S (.mk kd s [] [] [] [] [] []) oG :=
 ⟨.nil _,.inl rfl,.inl rfl,.inl rfl,.inl rfl,by simp [P.ex],by simp [P.cols],by simp [P.left],by simp [P.right],by simp [P.ag]⟩
theorem Lp {g pb:Nat} {w2 w3:World} {mid:List T} {st:eY} (hb:w3.heap[pb]?=some (.cells #[.int .i64 3,.string ⟨#[]⟩,.slice none 0 0,.slice none 0 0,.slice none 0 0,.slice none 0 0,.slice none 0 0,.slice none 0 0] 27 (0,0)))(ho:Only g w2 w3)(hr:qo w3 g st):Y0 g pb w2 w3.heap.size mid st (.int .i64 0) w3 :=
 ⟨0,[],.slice none 0 0,.slice none 0 0,Nat.zero_le _,rfl,by simp,⟨by exact hb,⟨rfl,.inl ⟨rfl,rfl⟩⟩,⟨rfl,.inl ⟨rfl,rfl⟩⟩,fun p hp=>(by cases hp),fun k e=>(by cases e),ho,ank _,hr⟩⟩
theorem VY {g pb B g' cap:Nat} {w2 wr wx w4 w5:World} {v2 v3:Value} {ps:List EP} {cs:List ByteArray} {s:ByteArray} {st st':eY} {x:T} {A2:Option Addr} {c2:Nat} (hr:Ll g pb w2 B v2 v3 ps cs st wr)
 (hnx:wx.heap[wr.heap.size]?=some (.cells #[.int .i64 x.k,.string x.s,.int .i64 x.n,.slice A2 x.kids.length c2,.int .i64 x.at_] 71 (0,0)))(ho:Only g wx w4)(h4:Ll g pb w2 B v2 v3 ps cs st' w4)(hg5:w4.grownBy w5 v3.ownBlock)
 (dP:w5.ownsRow B 9 1 (.slice (some ⟨g',0,none⟩) (cs.length+1) cap) (cs.length+1) (strs cs ++ [.string s]))
 (hat:(Value.slice (some ⟨g',0,none⟩) (cs.length+1) cap).ownBlock=v3.ownBlock∨∃ n,(Value.slice (some ⟨g',0,none⟩) (cs.length+1) cap).ownBlock=some n∧w4.heap.size≤n)
 (hg:g < pb)(hp:pb < B)(hw:w2.heap.size≤pb):abP g pb w2 B wr.heap.size x A2 c2 v2 ps (cs ++ [s]) st' (w5.setCell ⟨pb,3,none⟩ (.slice (some ⟨g',0,none⟩) (cs.length+1) cap)):=by
 have hs:=hr.size
 have hsx:=(Array.getElem?_eq_some_iff.1 hnx).1
 have hs4:=ho.size
 have h3:∀ k,v3.ownBlock=some k→B≤k∧k < wr.heap.size:=fun k e=>hr.pI.lt k e
 have h2:∀ k,v2.ownBlock=some k→B≤k∧k < wr.heap.size:=fun k e=>hr.qY.lt k e
 refine ⟨_,h4.step3 hg5 dP hat hg hp hw,?_,fun e=>by have:=(h2 _ e).2;omega,fun e=>?_⟩
 ·exact (ann w5 ⟨pb,3,none⟩ _ wr.heap.size (by show wr.heap.size≠pb;omega)).trans ((hg5.block _ (by omega) fun e=>by have:=(h3 _ e.symm).2;omega).trans ((ho.block _ hsx (by omega)).trans hnx))
 ·rcases hat with h | ⟨n,h,hn⟩
  ·rw [h] at e
   have:=(h3 _ e).2
   omega
  ·rw [h] at e
   have:=Option.some.inj e
   omega
structure Sv (w:World)(g b o j:Nat)(x y z:T)(b2 o2 c2:Nat)(A3:Option Addr)(c3:Nat)(A4:Option Addr)(c4:Nat):Prop where
 x0:w.cell? ⟨b,o+5+j * 5,none⟩=some (.int .i64 x.k)
 x1:w.cell? ⟨b,o+5+j * 5+1,none⟩=some (.string x.s)
 x2:w.cell? ⟨b,o+5+j * 5+2,none⟩=some (.int .i64 x.n)
 x3:w.cell? ⟨b,o+5+j * 5+3,none⟩=some (.slice (some ⟨b2,o2,none⟩) 2 c2)
 x4:w.cell? ⟨b,o+5+j * 5+4,none⟩=some (.int .i64 x.at_)
 y0:w.cell? ⟨b2,o2,none⟩=some (.int .i64 y.k)
 y1:w.cell? ⟨b2,o2+1,none⟩=some (.string y.s)
 y2:w.cell? ⟨b2,o2+2,none⟩=some (.int .i64 y.n)
 y3:w.cell? ⟨b2,o2+3,none⟩=some (.slice A3 y.kids.length c3)
 y4:w.cell? ⟨b2,o2+4,none⟩=some (.int .i64 y.at_)
 z0:w.cell? ⟨b2,o2+5,none⟩=some (.int .i64 z.k)
 z1:w.cell? ⟨b2,o2+5+1,none⟩=some (.string z.s)
 z2:w.cell? ⟨b2,o2+5+2,none⟩=some (.int .i64 z.n)
 z3:w.cell? ⟨b2,o2+5+3,none⟩=some (.slice A4 z.kids.length c4)
 z4:w.cell? ⟨b2,o2+5+4,none⟩=some (.int .i64 z.at_)
 ky:bz w g A3 y.kids
 kz:bz w g A4 z.kids
theorem Pv {w:World} {g b o j:Nat} {l:List T} {x y z:T} (h:bz w g (some ⟨b,o,none⟩) l)(hg:g≤w.heap.size)(hx:l[1+j]?=some x)(hk:x.kids=[y,z]) :
 ∃ b2 o2 c2 A3 c3 A4 c4,2≤c2∧y.kids.length≤c3∧z.kids.length≤c4∧∀ w',Only g w w'→Sv w' g b o j x y z b2 o2 c2 A3 c3 A4 c4:=by
 obtain ⟨b',o',A2,c2,e,hb,x0,x1,x2,x3,x4,hc2,hK⟩:=h.at hg hx
 obtain ⟨rfl,rfl⟩:b=b'∧o=o':=by injection e with e;injection e with e1 e2;exact ⟨e1,e2⟩
 rw [hk] at hK hc2 x3
 obtain ⟨b2,o2,A3,c3,rfl,hb2,y0,y1,y2,y3,y4,hc3,hKy⟩:=hK.at hg (i:=0) (x:=y) rfl
 obtain ⟨b2',o2',A4,c4,e2,_,z0,z1,z2,z3,z4,hc4,hKz⟩:=hK.at hg (i:=1) (x:=z) rfl
 obtain ⟨rfl,rfl⟩:b2=b2'∧o2=o2':=by injection e2 with e;injection e with e1 e2;exact ⟨e1,e2⟩
 rw [show o+(1+j) * 5=o+5+j * 5 by omega] at x0 x1 x2 x3 x4
 rw [Nat.zero_mul,Nat.add_zero] at y0 y1 y2 y3 y4
 rw [Nat.one_mul] at z0 z1 z2 z3 z4
 refine ⟨b2,o2,c2,A3,c3,A4,c4,hc2,hc3,hc4,fun w' ho=>?_⟩
 have hB:∀ q,w'.cell? ⟨b,q,none⟩=w.cell? ⟨b,q,none⟩:=fun q=>ho.cell (p:=⟨b,q,none⟩) (by show b < _;omega) (by show b≠g;omega)
 have hB2:∀ q,w'.cell? ⟨b2,q,none⟩=w.cell? ⟨b2,q,none⟩:=fun q=>ho.cell (p:=⟨b2,q,none⟩) (by show b2 < _;omega) (by show b2≠g;omega)
 have hlow:=ho.below (B:=g) hg (ank _)
 exact ⟨(hB _).trans x0,(hB _).trans x1,(hB _).trans x2,(hB _).trans x3,(hB _).trans x4,(hB2 _).trans y0,(hB2 _).trans y1,(hB2 _).trans y2,(hB2 _).trans y3,(hB2 _).trans y4,
  (hB2 _).trans z0,(hB2 _).trans z1,(hB2 _).trans z2,(hB2 _).trans z3,(hB2 _).trans z4,hKy.low hlow,hKz.low hlow⟩
theorem Gq {l:List T} {i m j:Nat} (h:l.length=m+i+1)(hj:j < m):∃ x,l[i+j]?=some x:=⟨_,anr (by omega)⟩
theorem lJ {n j:Nat} (h:n=j)(hj:j≤600):n+1≤maxLen:=by unfold maxLen;omega
theorem jP {n j z:Nat} (h:n=j)(hj:j≤600)(hz:z≤200):(n+1) * z≤140737488355328:=by
 have:(n+1) * z≤601 * 200:=Nat.mul_le_mul (by omega) hz
 omega
theorem Lr {α:Type} {f:T→α} {l:List T} {j m:Nat} (h:l.length=m)(hj:j≤m):((l.take j).map f).length=j:=by
 rw [List.length_map,List.length_take]
 omega
theorem Y1 {α:Type} {f:T→E} {l:List T} {ps:List (E×α)} {j m:Nat} (h:l.length=m)(hj:j≤m)(hp:ps.map Prod.fst=(l.take j).map f):ps.length=j:=by
 have:=congrArg List.length hp
 rw [List.length_map,Lr h hj] at this
 exact this
theorem Y2 {g pb B:Nat} {w2 wr:World} {v2 v3:Value} {ps:List EP} {l mid:List T} {a:Int} {st:eY} {j m:Nat} (hm:mid.length=m)(hj:j≤m)(hn:¬ j < m)(hps:ps.map Prod.fst=(mid.take j).map uI)(h:Ll g pb w2 B v2 v3 ps ((mid.take j).map lX) (nT (mid.take j) st) wr)
 (hbp:aT 3 l=.mk 3 ⟨#[]⟩ (mid.map uI) (mid.map lX) [] [] [] [])(hbr:dM 3 l a st=nT mid st)(hkl:aJ 3≤l.length)(h6:m≤600)(hp:pb < B):VX g pb w2 3 l (dM 3 l a st) (.int .i64 1) wr:=by
 have ht:mid.take j=mid:=List.take_of_length_le (by omega)
 rw [ht] at hps h
 have hl:=congrArg List.length hps
 rw [List.length_map,List.length_map] at hl
 have hs:=h.size
 obtain ⟨A2,c2,e2,hx⟩:=tX h.qY (by omega) (S:=fun k=>pb < k∧k < wr.heap.size) (fun k k1 k2=>⟨by omega,k2⟩) (fun p hp'=>(h.kids p hp').mono fun k hk=>⟨by have:=hk.1;omega,hk.2.1⟩)
 obtain ⟨A3,c3,e3,hc3,hL⟩:=lQ h.pI (S:=fun k=>pb < k∧k < wr.heap.size) (fun k k1 k2=>⟨by omega,k2⟩)
 subst e2 e3
 refine ⟨{ oG with ea:=A2,ec:=c2,ca:=A3,cc:=c3 },rfl,.inl rfl,hkl,?_,?_,h.only,?_⟩
 ·rw [h.box,hbp]
  simp only [P.k,P.nm,P.ex,P.cols,P.left,P.right,P.ag,hps]
  rfl
 ·rw [hbp]
  refine ⟨by rw [hps] at hx;exact hx,hL,.inl rfl,.inl rfl,.inl rfl,?_,?_,by simp [P.left],by simp [P.right],by simp [P.ag]⟩
  ·simp only [P.ex,List.length_map];omega
  ·simp only [P.cols,List.length_map];omega
 ·rw [hbr]
  exact h.rd
theorem Ls {g pb:Nat} {w2 w4:World} {mid:List T} {st:eY} {lv:Value} (hb:w4.heap[pb]?=some (.cells #[.int .i64 7,.string ⟨#[]⟩,.slice none 0 0,.slice none 0 0,.slice none 0 0,.slice none 0 0,.slice none 0 0,.slice none 0 0] 27 (0,0)))
 (ho:Only g w2 w4)(hr:qo w4 g st)(hg:g < pb)(hw:w2.heap.size≤pb):VW g pb w2 w4.heap.size lv mid st (w4.setCell ⟨pb,4,none⟩ lv) (.int .i64 0) (w4.setCell ⟨pb,4,none⟩ lv):=by
 refine ⟨0,.slice none 0 0,Nat.zero_le _,rfl,⟨fQ (k:=4) hb,⟨rfl,.inl ⟨rfl,rfl⟩⟩,ho.aA (p:=⟨pb,4,none⟩) hw _,by simp [World.setCell],?_⟩,fun _ _ _=>rfl⟩
 exact (ann w4 ⟨pb,4,none⟩ _ g (by show g≠pb;omega)).trans hr
theorem Y3 {g pb:Nat} {w2 w3 w4 wr:World} {v:Value} {l mid xs:List T} {a:Int} {st:eY} {A4:Option Addr} {c4 xm:Nat} {j m:Nat} (hm:mid.length=m)(hj:j≤m)(hn:¬ j < m)
 (h:Pn g pb w2 w4.heap.size (.slice A4 xm c4) v ((mid.take j).map nG) (l7 (mid.take j) (dY xs st)) wr)(hold:∀ k,pb < k→k < w4.heap.size→wr.heap[k]?=(w4.setCell ⟨pb,4,none⟩ (.slice A4 xm c4)).heap[k]?)
 (hL:Lies w4 (fun k=>w3.heap.size≤k∧k < w4.heap.size) A4 (strs (xs.map T.s)))(hxm:xs.length=xm)(RN:xm≤c4)(hx6:xm≤600)
 (hbp:aT 7 l=.mk 7 ⟨#[]⟩ [] [] (xs.map T.s) [] (mid.map nG) [])(hbr:dM 7 l a st=l7 mid (dY xs st))(hkl:aJ 7≤l.length)(h6:m≤600)(hp:pb < w3.heap.size)(ajV:w3.heap.size≤w4.heap.size):VX g pb w2 7 l (dM 7 l a st) (.int .i64 1) wr:=by
 have ht:mid.take j=mid:=List.take_of_length_le (by omega)
 rw [ht] at h
 have hs:=h.size
 obtain ⟨A3,c3,e3,hc3,hLg⟩:=lQ h.own (S:=fun k=>pb < k∧k < wr.heap.size) (fun k k1 k2=>⟨by omega,k2⟩)
 subst e3
 refine ⟨{ oG with la:=A4,lc:=c4,ga:=A3,gc:=c3 },rfl,.inl rfl,hkl,?_,?_,h.only,?_⟩
 ·rw [h.box,hbp]
  simp only [P.k,P.nm,P.ex,P.cols,P.left,P.right,P.ag,List.length_map,hxm]
  rfl
 ·rw [hbp]
  refine ⟨.nil _,.inl rfl,?_,.inl rfl,hLg,by simp [P.ex],by simp [P.cols],?_,by simp [P.right],?_⟩
  ·exact (hL.kept fun k hk=>(hold k (by have:=hk.1;omega) hk.2).trans (ann w4 ⟨pb,4,none⟩ _ k (by show k≠pb;have:=hk.1;omega))).mono fun k hk=>⟨by have:=hk.1;omega,by have:=hk.2;omega⟩
  ·simp only [P.left,List.length_map];exact ⟨by omega,by rw [hxm];exact RN⟩
  ·simp only [P.ag,List.length_map];omega
 ·rw [hbr]
  exact h.rd
theorem qy {w:World} {B n z pb:Nat} {e:TypeId} {v:Value} {xs:List Value} (h:w.ownsRow B e z v n xs)(hp:pb < B):v.ownBlock≠some pb:=fun e=>by have:=(h.lt pb e).1;omega
theorem BR {s:ByteArray}:∀ u ∈ [Value.string s],u.oneCell'=true:=by
 intro u hu
 rw [List.mem_singleton.1 hu]
 rfl
theorem VZ {t:T} (h:ik t=true):t.kids.length=2∨t.kids.length=3:=by
 unfold ik at h
 simp at h
 exact h.2
theorem Lt {g pb B g' cap:Nat} {w2 wl wr w3 w5:World} {lv v:Value} {mid:List T} {st stj st5:eY} {j:Nat} {x:T} {gs:List Ag} {ax:Ag} (hgs:(mid.take j).map nG=gs)(hst:l7 (mid.take j) st=stj)(hax:kU x.kids=ax)(Be:mg x.kids stj=st5)(hx:mid[j]?=some x)
 (hr:Pn g pb w2 B lv v gs stj wr)(hold:∀ k,pb < k→k < B→wr.heap[k]?=wl.heap[k]?)(ho:Only g wr w3)(h:Pn g pb w2 B lv v gs st5 w3)(hg5:w3.grownBy w5 v.ownBlock)
 (dP:w5.ownsRow B 46 3 (.slice (some ⟨g',0,none⟩) (j+1) cap) (j+1) (fB gs ++ Ag.cs ax))
 (hat:(Value.slice (some ⟨g',0,none⟩) (j+1) cap).ownBlock=v.ownBlock∨∃ n,(Value.slice (some ⟨g',0,none⟩) (j+1) cap).ownBlock=some n∧w3.heap.size≤n)
 (hg:g < pb)(hp:pb < B)(hw:w2.heap.size≤pb):VW g pb w2 B lv mid st wl (.int .i64 ((j:Int)+1)) (w5.setCell ⟨pb,6,none⟩ (.slice (some ⟨g',0,none⟩) (j+1) cap)):=by
 subst hgs hst hax Be
 exact Pq hx hr hold ho h hg5 dP hat hg hp hw
theorem V3:(Tryz.prog.info? 5).map (fun i=>(i.zero,i.size,i.bytes))=some (some (.int .u8 0),1,1):=by kernel_rfl
def V4 (l:List UInt8):List Value:=l.map fun c=>.int .u8 c.toNat
theorem V5 (l:List UInt8):(V4 l).length=l.length:=by simp [V4]
theorem vI (a b:List UInt8):V4 (a ++ b)=V4 a ++ V4 b:=by simp [V4]
def OwnB (B:Nat)(w:World)(v:Value)(l:List UInt8):Prop:=w.ownsRow B 5 1 v l.length (V4 l)
theorem own_base {w:World} {B B' n:Nat} {e:TypeId} {z:Nat} {v:Value} {xs:List Value} (h:w.ownsRow B e z v n xs)(hB:B'≤B):w.ownsRow B' e z v n xs:=by
 rcases h with ⟨h1,h2⟩
 refine ⟨h1,?_⟩
 rcases h2 with h2 | ⟨g,cap,cur,rfl,h3,h4⟩
 ·exact .inl h2
 ·exact .inr ⟨g,cap,cur,rfl,by omega,h4⟩
theorem ownB_of {w:World} {B m:Nat} {v:Value} {xs:List Value} {l:List UInt8} (h:w.ownsRow B 5 1 v m xs)(hx:xs=V4 l):OwnB B w v l:=by
 subst hx
 have h1:=h.1
 rw [V5,Nat.mul_one] at h1
 subst h1
 exact h
theorem Sz {w:World} {B:Nat} {v:Value} {l:List UInt8} (h:OwnB B w v l):(convert 151 9 v).run Tryz.prog w=.ok (.string ⟨l.toArray⟩) w:=by
 unfold OwnB at h
 rcases id h.2 with ⟨rfl,h0⟩ | ⟨g,cap,cur,rfl,_⟩
 ·have e0:l=[]:=List.eq_nil_of_length_eq_zero h0
  subst e0
  rw [run_convert_bytes_nil (P:=Tryz.prog) w 151 5 Tryz.underlying151 Tryz.underlying5 _ _ 9 Tryz.underlying9]
  rfl
 ·exact run_convert_bytes_back (P:=Tryz.prog) w 151 9 5 ⟨g,0,none⟩ cap l Tryz.underlying151 Tryz.underlying5 Tryz.underlying9 (fun q hq=>h.cells rfl q _ (by simp [V4,hq]))
def hexL:List UInt8:=[48,49,50,51,52,53,54,55,56,57,97,98,99,100,101,102]
def hexD (n:Nat):UInt8:=hexL.getD n 0
def lD (c:UInt8):Bool:=((decide (32≤(c.toNat:Int)) && decide ((c.toNat:Int)≤126)) && (c.toNat:Int) != 34) && (c.toNat:Int) != 92
def qB (c:UInt8):List UInt8:=if lD c then [c] else [92,hexD (c.toNat / 16),hexD (c.toNat % 16)]
def qA (l:List UInt8):List UInt8:=34 :: l.flatMap qB ++ [34]
def xC (v:V):List UInt8:=if V.okB v then (if v.k == 1 then Lib.itoa v.n else qA v.s.data.toList) else [63]
theorem Px:∀ c:Fin 256,bits BinOp.and IntKind.u8 ((c.val:Nat):Int) 15=((c.val:Nat):Int) % 16:=by decide +kernel
theorem Yr (c:UInt8):bits BinOp.and IntKind.u8 (c.toNat:Int) 15=(c.toNat:Int) % 16:=Px ⟨c.toNat,c.toNat_lt⟩
theorem Oa:∀ i:Fin 16,∀ h,(ByteArray.mk #[48,49,50,51,52,53,54,55,56,57,97,98,99,100,101,102])[i.val]'h=hexD i.val:=by decide +kernel
theorem Y4 (c:UInt8):∀ h,(ByteArray.mk #[48,49,50,51,52,53,54,55,56,57,97,98,99,100,101,102])[((c.toNat:Int) / 16).toNat]'h=hexD (c.toNat / 16):=by
 intro h
 have e:((c.toNat:Int) / 16).toNat=c.toNat / 16:=by omega
 have hl:c.toNat / 16 < 16:=by have:=c.toNat_lt;omega
 have:=Oa ⟨c.toNat / 16,hl⟩ (show c.toNat / 16 < 16 from hl)
 simpa only [e] using this
theorem Y5 (c:UInt8):∀ h,(ByteArray.mk #[48,49,50,51,52,53,54,55,56,57,97,98,99,100,101,102])[((c.toNat:Int) % 16).toNat]'h=hexD (c.toNat % 16):=by
 intro h
 have e:((c.toNat:Int) % 16).toNat=c.toNat % 16:=by omega
 have hl:c.toNat % 16 < 16:=by omega
 have:=Oa ⟨c.toNat % 16,hl⟩ (show c.toNat % 16 < 16 from hl)
 simpa only [e] using this
theorem SA (s:ByteArray)(k:Nat)(h:k < s.size):(s.data.toList.take (k+1)).flatMap qB=(s.data.toList.take k).flatMap qB ++ qB s[k]:=by
 rw [List.take_succ_eq_append_getElem (by simpa using h),List.flatMap_append]
 simp
 rfl
theorem abQ (c:UInt8):(qB c).length≤3:=by unfold qB;split <;> simp
theorem Ob (l:List UInt8):(l.flatMap qB).length≤3 * l.length:=by
 induction l with
 | nil=>simp
 | cons c l ih=>have:=abQ c;simp only [List.flatMap_cons,List.length_append,List.length_cons];omega
theorem Py (s:ByteArray)(hs:s.size≤40)(n:Int)(k:Int)(hk:(k == 2)=true)(hok:V.okB ⟨k,n,s⟩=true)(w:World) :
 Calls Tryz.prog 63 #[.agg #[.int .i64 k,.int .i64 n,.string s]] w fun e w'=>e=.returned (.string ⟨(qA s.data.toList).toArray⟩)∧Below w.heap.size w w':=by
 obtain ⟨i0,hi0,hz0,hz1,hz2⟩:=info_parts V3
 have hr:=anc (zM k n s)
 have hk1:(k == 1)=false:=by simp at hk ⊢;omega
 rw [hok] at hr
 clear hok
 go_enter Tryz.func63,Tryz.ntmps63
 go_wp2_with fail
 refine (hr.out _).mono ?_
 rintro e w' ⟨rfl,rfl⟩
 go_wp2_with fail
 obtain ⟨W0,hW0⟩:∃ W0,W0=w.alloc (.cells #[.int .i64 k,.int .i64 n,.string s] 114):=⟨_,rfl⟩
 have hbox:Hid (∀ w1,Below W0.heap.size W0 w1→w1.cell? ⟨w.heap.size,2,none⟩=some (.string s)):=anc fun w1 h1=>by
  subst hW0
  rw [h1.cell (by simp)]
  simp
 have hsz:W0.heap.size=w.heap.size+1:=by subst hW0;simp
 have hsz':=anc hsz
 have hB0:Hid (Below w.heap.size w W0):=anc (by subst hW0;exact (anl _ _).alloc (ank _) _)
 have hstart:Hid (OwnB W0.heap.size ((W0.alloc (.cells #[.int .i64 k,.int .i64 n,.string s] 114)).alloc (.cells #[.int .u8 34] 5)) (.slice (some ⟨w.heap.size+1+1,0,none⟩) 1 1) [34]):=anc (by
  have:=World.ownsRow_lit (base:=W0.heap.size) (e:=5) (size:=1) (W0.alloc (.cells #[.int .i64 k,.int .i64 n,.string s] 114)) #[.int .u8 34] 1 (by simp) (by decide) rfl
  have e:(W0.alloc (.cells #[.int .i64 k,.int .i64 n,.string s] 114)).heap.size=w.heap.size+1+1:=by simp [hsz]
  rw [e] at this
  exact this)
 have hB1:Hid (Below W0.heap.size W0 ((W0.alloc (.cells #[.int .i64 k,.int .i64 n,.string s] 114)).alloc (.cells #[.int .u8 34] 5))):=anc (((anl _ _).alloc (ank _) _).alloc (by simp) _)
 rw [← hW0]
 clear hW0 hsz
 go_loopw [3,22] (fun v i wr=>∃ j:Nat,j≤s.size∧i=.int .i64 j∧OwnB W0.heap.size wr v (34 :: (s.data.toList.take j).flatMap qB)∧Below W0.heap.size W0 wr) (fun _ i _=>s.size - (intOf i).toNat)
 case atStart=>exact ⟨0,Nat.zero_le _,rfl,hstart.out,hB1.out⟩
 case round =>
  obtain ⟨j,hj,rfl,hown,hb⟩:=hrel
  have HO:=anc hown
  have HB:=anc hb
  have hc:=hbox.out wr hb
  have hlen:Hid ((34 :: (s.data.toList.take j).flatMap qB).length≤200):=anc (by
   have:=Ob (s.data.toList.take j)
   have h2:(s.data.toList.take j).length≤j:=List.length_take_le _ _
   simp only [List.length_cons]
   omega)
  clear hown hb hstart hB1
  by_cases hlt:j < s.size
  ·have hst:Hid (34 :: (s.data.toList.take (j+1)).flatMap qB=(34 :: (s.data.toList.take j).flatMap qB) ++ qB s[j]):=anc (by rw [SA s j hlt];rfl)
   generalize (34 :: (s.data.toList.take j).flatMap qB)=cs at *
   generalize hcs2:(34 :: (s.data.toList.take (j+1)).flatMap qB)=cs2 at *
   have abR:=anc hcs2
   clear hcs2
   obtain ⟨pc,hpc⟩:∃ pc,pc=lD s[j]:=⟨_,rfl⟩
   have Ea:=anc hpc
   clear hpc
   go_upto_region 12 with (fail)
   go_cut [42] (fun s42 wx=>s42=.bool pc∧wx=wr)
   case first =>
    by_cases p1:32≤(s[j].toNat:Int)
    ·by_cases p2:(s[j].toNat:Int)≤126
     ·by_cases p3:((s[j].toNat:Int) != 34)=true
      ·obtain rfl:pc=((s[j].toNat:Int) != 92):=by rw [Ea.out,lD,decide_eq_true p1,decide_eq_true p2,p3];rfl
       clear Ea
       go_wp2_with fail
       go_meet
       exact ⟨rfl,rfl⟩
      ·have p3':((s[j].toNat:Int) != 34)=false:=by simpa using p3
       obtain rfl:pc=false:=by rw [Ea.out,lD,p3'];simp
       clear Ea p3
       go_wp2_with fail
       go_meet
       exact ⟨rfl,rfl⟩
     ·obtain rfl:pc=false:=by rw [Ea.out,lD,decide_eq_false p2];simp
      clear Ea
      go_wp2_with fail
      go_meet
      exact ⟨rfl,rfl⟩
    ·obtain rfl:pc=false:=by rw [Ea.out,lD,decide_eq_false p1];simp
     clear Ea
     go_wp2_with fail
     go_meet
     exact ⟨rfl,rfl⟩
   case rest =>
   obtain ⟨rfl,hwc⟩:=hcut
   obtain rfl:wr=wc:=hwc.symm
   clear hwc
   cases pc
   ·have hq:Hid (qB s[j]=[92,hexD (s[j].toNat / 16),hexD (s[j].toNat % 16)]):=anc (by unfold qB;rw [← Ea.out];rfl)
    have c0:(0:Int)≤(s[j].toNat:Int):=by omega
    have c1:(s[j].toNat:Int) < 256:=by have:=s[j].toNat_lt;omega
    have c2:(0:Int)≤(s[j].toNat:Int) / 16:=by omega
    have c3:(s[j].toNat:Int) / 16 < 16:=by omega
    have c4:(0:Int)≤(s[j].toNat:Int) % 16:=by omega
    have c5:(s[j].toNat:Int) % 16 < 16:=by omega
    have x1:=Y4 s[j]
    have x2:=Y5 s[j]
    have x3:=Yr s[j]
    go_wp2_with fail
    go_region_law (refine bU _ (by rfl) _ _ _ (by rfl) W0.heap.size 5 i0 _ 1 1 Tryz.underlying151 hi0 hz0 hz1 hz2 rfl (by omega) u3 _ _ (by rfl) ((HO.out.alloc _).drew) (wr.heap.size+1) (some ⟨wr.heap.size,0,none⟩) 3 3 [.int .u8 92,.int .u8 (hexD (s[j].toNat / 16)).toNat,.int .u8 (hexD (s[j].toNat % 16)).toNat] (by rfl) ⟨rfl,fun _=>⟨_,rfl,by simp,World.news_of_block (cs:=#[.int .u8 92,.int .u8 (hexD (s[j].toNat / 16)).toNat,.int .u8 (hexD (s[j].toNat % 16)).toNat]) (t:=5) (fr:=(0,0)) (anm wr _)⟩⟩ (by simp [Value.oneCell']) (by have:=hlen.out;unfold maxLen;omega) (by have:=hlen.out;omega) (by have:=HB.out.size;simp;omega) ?_;intro v2 w2 hown2 hg2 SB)
    all_goals
     have hb3:=(HB.out.alloc HB.out.size (.cells #[.int .u8 92,.int .u8 (hexD (s[j].toNat / 16)).toNat,.int .u8 (hexD (s[j].toNat % 16)).toNat] 5)).drew.grown hg2 (by have:=HB.out.size;simp;omega) (fun k hk=>(HO.out.lt k hk).1)
     have hown3:OwnB W0.heap.size w2 v2 cs2:=ownB_of hown2 (by rw [hst.out,hq.out,vI];rfl)
     have O9:=anc hown3
     have HB3:=anc hb3
     clear hown2 hg2 SB hb3 hown3 x1 x2 x3
     go_wp2_with fail
     go_roundw
     case rel=>exact ⟨j+1,by omega,by go_num,by rw [abR.out];exact O9.out,HB3.out⟩
     case measure=>simp [intOf];omega
   ·have hq:Hid (qB s[j]=[s[j]]):=anc (by unfold qB;rw [← Ea.out];rfl)
    go_wp2_with (at_builtin;refine gZ _ rfl _ _ 151 rfl W0.heap.size 5 i0 _ 1 1 Tryz.underlying151 hi0 hz0 hz1 hz2 rfl (by decide) _ _ _ rfl (HO.out.alloc _) (wr.heap.size+1) (some ⟨wr.heap.size,0,none⟩) 1 1 [.int .u8 s[j].toNat] rfl ?d0 ?d4 ?d1 ?d2 ?d3 ?_)
    case d0=>exact ⟨rfl,fun _=>⟨_,rfl,by simp,World.news_of_block (cs:=#[.int .u8 s[j].toNat]) (t:=5) (fr:=(0,0)) (anm wr _)⟩⟩
    case d4=>intro u hu;simp at hu;subst hu;rfl
    case d1=>have:=hlen.out;unfold maxLen;omega
    case d2=>have:=hlen.out;omega
    case d3=>have:=HB.out.size;simp;omega
    intro v2 w2 hown2 hg2 SB
    have hb3:=(HB.out.alloc HB.out.size (.cells #[.int .u8 s[j].toNat] 5)).grown hg2 (by have:=HB.out.size;simp;omega) (fun k hk=>(HO.out.lt k hk).1)
    have hown3:OwnB W0.heap.size w2 v2 cs2:=ownB_of hown2 (by rw [hst.out,hq.out,vI];rfl)
    have O9:=anc hown3
    have HB3:=anc hb3
    clear hown2 hg2 SB hb3 hown3
    go_wp2_with fail
    go_roundw
    case rel=>exact ⟨j+1,by omega,by go_num,by rw [abR.out];exact O9.out,HB3.out⟩
    case measure=>simp [intOf];omega
  ·obtain rfl:j=s.size:=by omega
   have hcs:Hid ((34 :: (s.data.toList.take s.size).flatMap qB)=34 :: s.data.toList.flatMap qB):=anc (by rw [List.take_of_length_le (by simp)])
   have hend:Hid ((34 :: (s.data.toList.take s.size).flatMap qB) ++ [34]=qA s.data.toList):=anc (by rw [hcs.out];rfl)
   generalize (34 :: (s.data.toList.take s.size).flatMap qB)=cs at *
   clear hcs hlt hj
   go_wp2_with (at_builtin;refine gZ _ rfl _ _ 151 rfl W0.heap.size 5 i0 _ 1 1 Tryz.underlying151 hi0 hz0 hz1 hz2 rfl (by decide) _ _ _ rfl (HO.out.alloc _) (wr.heap.size+1) (some ⟨wr.heap.size,0,none⟩) 1 1 [.int .u8 34] rfl ?d0 ?d4 ?d1 ?d2 ?d3 ?_)
   case d0=>exact ⟨rfl,fun _=>⟨_,rfl,by simp,World.news_of_block (cs:=#[.int .u8 34]) (t:=5) (fr:=(0,0)) (anm wr _)⟩⟩
   case d4=>intro u hu;simp at hu;subst hu;rfl
   case d1=>have:=hlen.out;unfold maxLen;omega
   case d2=>have:=hlen.out;omega
   case d3=>have:=HB.out.size;simp;omega
   intro v2 w2 hown2 hg2 SB
   have hb3:=(HB.out.alloc HB.out.size (.cells #[.int .u8 34] 5)).grown hg2 (by have:=HB.out.size;simp;omega) (fun k hk=>(HO.out.lt k hk).1)
   have hown3:OwnB W0.heap.size w2 v2 (qA s.data.toList):=ownB_of hown2 (by rw [← hend.out,vI];rfl)
   have HB3:=anc (hB0.out.trans (hb3.mono hB0.out.size))
   have hcv:=Sz hown3
   clear hown2 hg2 SB hb3 hown3 hend
   go_wp2_with fail
   go_ret
   exact ⟨rfl,HB3.out⟩
def pJ (s:ByteArray):List UInt8:=if V.okB ⟨2,0,s⟩ then qA s.data.toList else [63]
mutual
def dH:T→List UInt8
 | .mk k s n l _=>if k=1 then 40 :: (Lib.join (gp l) [32] ++ [41]) else if k=2 then s.data.toList else if k=3 then Lib.itoa n else if k=4 then pJ s else []
def gp:List T→List (List UInt8)
 | []=>[]
 | x :: l=>dH x :: gp l
end
theorem lF (l:List T):(gp l).length=l.length:=by
 induction l with
 | nil=>rfl
 | cons x l ih=>rw [gp,List.length_cons,List.length_cons,ih]
end Go.Proofs.YtjhkihkiebnpaaaGreatDoor
