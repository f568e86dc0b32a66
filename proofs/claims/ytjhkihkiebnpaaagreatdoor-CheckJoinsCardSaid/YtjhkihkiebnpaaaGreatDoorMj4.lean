/-
  The reference's reader of brackets: numbers.
-/
import Derived.Test.YtjhkihkiebnpaaaGreatDoorMj0
import Derived.Test.YtjhkihkiebnpaaaGreatDoorMj1
import Derived.Deep.DeepCutAuto
import Derived.ChangeAlike
import Derived.KernelRfl
import Derived.Deep.RegionHeld3
import Derived.Test.YtjhkihkiebnpaaaGreatDoorRows
import Derived.BigQuiet
import Derived.Laws.StructEq
import Derived.ProofKit
import Derived.OpenShut
import Derived.Deep.Slices
import Derived.Deep.Fields
import Derived.ChangeSame
import Derived.Carry
set_option linter.unusedVariables false
set_option linter.unusedSimpArgs false
set_option maxRecDepth 100000
set_option maxHeartbeats 40000000
namespace Go.Proofs.YtjhkihkiebnpaaaGreatDoor
open Go.RowKit
def NumEnd (s:ByteArray)(p:Nat)(e:Ending):Prop:=∃ (n:Int)(i:Nat)(ok:Bool),e=.returned (.tuple #[.int .i64 n,.int .i64 (i:Int),.bool ok])∧i≤s.size∧(ok=true→p<i)∧-9223372036854775808≤n∧n≤9223372036854775807
theorem qX (x:Int):-9223372036854775808≤IntKind.i64.wrap x∧IntKind.i64.wrap x≤9223372036854775807:=by
 unfold IntKind.wrap
 simp[IntKind.bits,IntKind.signed]
 omega
theorem mZ (x:Int):-9223372036854775808≤wrap64 x∧wrap64 x≤9223372036854775807:=by
 unfold wrap64
 omega
theorem Jd (s:ByteArray)(p:Nat)(hp:p<s.size)(hs:s.size≤600)(w:World):Calls Tryz.prog 124 #[.string s,.int .i64 (p:Int)] w fun e w'=>NumEnd s p e∧w=w':=by
 have hD:=ae (fun c=>vK c w)
 cases hq:((s[p].toNat:Int)==45)
 ·skip
  go_enter Tryz.func124,Tryz.ntmps124
  go_upto_region 7 with (fail)
  go_wp2_with fail
  go_loop [7,9,10] (fun i u q=>∃ (k:Nat)(z:Int)(b:Bool),p≤k∧k≤s.size∧i=.int .i64 k∧u=.int .u64 z∧q=.bool b) (fun i _ _=>s.size-(intOf i).toNat)
  case atStart=>exact⟨p,0,true,by omega,by omega,by go_num,rfl,rfl⟩
  case round =>
   obtain⟨k,z,b,hk1,hk2,rfl,rfl,rfl⟩:=hrel
   by_cases hlt:k<s.size
   ·have hdk:=ae (hD.o s[k])
    cases hdg:CJ s[k]
    ·rw[hdg] at hdk
     cases hkp:((k:Int)==(p:Int))
     ·have hkn:Hid (k≠p):=ae (by have:=hkp;simp at this;omega)
      cases b
      ·go_wp2_with fail
       refine (hdk.o).mono ?_
       rintro e w' ⟨rfl,rfl⟩
       go_wp2_with fail
       all_goals
        go_ret3
        exact⟨⟨_,k,_,rfl,by omega,by simp,by omega,by omega⟩,rfl⟩
      ·cases hz1:decide (9223372036854775807<z)
       all_goals
        cases hz2:decide (9223372036854775808<z)
        all_goals
         go_wp2_with fail
         refine (hdk.o).mono ?_
         rintro e w' ⟨rfl,rfl⟩
         go_wp2_with fail
         all_goals
          go_ret3
          exact⟨⟨_,k,_,rfl,by omega,by first|(simp;done)|(intro _;have:=hkn.o;omega),by first|omega|exact (qX _).1|exact (mZ _).1,by first|omega|exact (qX _).2|exact (mZ _).2⟩,rfl⟩
     ·go_wp2_with fail
      refine (hdk.o).mono ?_
      rintro e w' ⟨rfl,rfl⟩
      go_wp2_with fail
      all_goals
       go_ret3
       exact⟨⟨_,k,_,rfl,by omega,by simp,by omega,by omega⟩,rfl⟩
    ·rw[hdg] at hdk
     generalize hdv:(s[k].toNat:Int)=dv at *
     cases hq9:decide ((9223372036854775808-(dv-48)) / 10<z)
     all_goals
      go_wp2_with fail
      refine (hdk.o).mono ?_
      rintro e w' ⟨rfl,rfl⟩
      go_wp2_with fail
      all_goals
       go_round
       case rel=>exact⟨k+1,_,_,by omega,by omega,by go_num,rfl,rfl⟩
       case measure=>simp[intOf];omega
   ·obtain rfl:k=s.size:=by omega
    cases hkp:((s.size:Int)==(p:Int))
    ·have hkn:Hid (s.size≠p):=ae (by have:=hkp;simp at this;omega)
     cases b
     ·go_wp2_with fail
      all_goals
       go_ret3
       exact⟨⟨_,s.size,_,rfl,by omega,by simp,by omega,by omega⟩,rfl⟩
     ·cases hz1:decide (9223372036854775807<z)
      all_goals
       cases hz2:decide (9223372036854775808<z)
       all_goals
        go_wp2_with fail
        all_goals
         go_ret3
         exact⟨⟨_,s.size,_,rfl,by omega,by first|(simp;done)|(intro _;have:=hkn.o;omega),by first|omega|exact (qX _).1|exact (mZ _).1,by first|omega|exact (qX _).2|exact (mZ _).2⟩,rfl⟩
    ·go_wp2_with fail
     all_goals
      go_ret3
      exact⟨⟨_,s.size,_,rfl,by omega,by simp,by omega,by omega⟩,rfl⟩
 ·skip
  go_enter Tryz.func124,Tryz.ntmps124
  go_upto_region 7 with (fail)
  go_wp2_with fail
  go_loop [7,9,10] (fun i u q=>∃ (k:Nat)(z:Int)(b:Bool),p+1≤k∧k≤s.size∧i=.int .i64 k∧u=.int .u64 z∧q=.bool b) (fun i _ _=>s.size-(intOf i).toNat)
  case atStart=>exact⟨p+1,0,true,by omega,by omega,by go_num,rfl,rfl⟩
  case round =>
   obtain⟨k,z,b,hk1,hk2,rfl,rfl,rfl⟩:=hrel
   by_cases hlt:k<s.size
   ·have hdk:=ae (hD.o s[k])
    cases hdg:CJ s[k]
    ·rw[hdg] at hdk
     cases hkp:((k:Int)==((p:Int)+1))
     ·have hkn:Hid (k≠p+1):=ae (by have:=hkp;simp at this;omega)
      cases b
      ·go_wp2_with fail
       refine (hdk.o).mono ?_
       rintro e w' ⟨rfl,rfl⟩
       go_wp2_with fail
       all_goals
        go_ret3
        exact⟨⟨_,k,_,rfl,by omega,by simp,by omega,by omega⟩,rfl⟩
      ·cases hz1:decide (9223372036854775807<z)
       all_goals
        cases hz2:decide (9223372036854775808<z)
        all_goals
         go_wp2_with fail
         refine (hdk.o).mono ?_
         rintro e w' ⟨rfl,rfl⟩
         go_wp2_with fail
         all_goals
          go_ret3
          exact⟨⟨_,k,_,rfl,by omega,by first|(simp;done)|(intro _;have:=hkn.o;omega),by first|omega|exact (qX _).1|exact (mZ _).1,by first|omega|exact (qX _).2|exact (mZ _).2⟩,rfl⟩
     ·go_wp2_with fail
      refine (hdk.o).mono ?_
      rintro e w' ⟨rfl,rfl⟩
      go_wp2_with fail
      all_goals
       go_ret3
       exact⟨⟨_,k,_,rfl,by omega,by simp,by omega,by omega⟩,rfl⟩
    ·rw[hdg] at hdk
     generalize hdv:(s[k].toNat:Int)=dv at *
     cases hq9:decide ((9223372036854775808-(dv-48)) / 10<z)
     all_goals
      go_wp2_with fail
      refine (hdk.o).mono ?_
      rintro e w' ⟨rfl,rfl⟩
      go_wp2_with fail
      all_goals
       go_round
       case rel=>exact⟨k+1,_,_,by omega,by omega,by go_num,rfl,rfl⟩
       case measure=>simp[intOf];omega
   ·obtain rfl:k=s.size:=by omega
    cases hkp:((s.size:Int)==((p:Int)+1))
    ·have hkn:Hid (s.size≠p+1):=ae (by have:=hkp;simp at this;omega)
     cases b
     ·go_wp2_with fail
      all_goals
       go_ret3
       exact⟨⟨_,s.size,_,rfl,by omega,by simp,by omega,by omega⟩,rfl⟩
     ·cases hz1:decide (9223372036854775807<z)
      all_goals
       cases hz2:decide (9223372036854775808<z)
       all_goals
        go_wp2_with fail
        all_goals
         go_ret3
         exact⟨⟨_,s.size,_,rfl,by omega,by first|(simp;done)|(intro _;have:=hkn.o;omega),by first|omega|exact (qX _).1|exact (mZ _).1,by first|omega|exact (qX _).2|exact (mZ _).2⟩,rfl⟩
    ·go_wp2_with fail
     all_goals
      go_ret3
      exact⟨⟨_,s.size,_,rfl,by omega,by simp,by omega,by omega⟩,rfl⟩
def Az:List Value:=iV.map fun l=>.string ⟨l.toArray⟩
theorem toList_mk (l:List UInt8):(ByteArray.mk l.toArray).toList=l:=by rw[ByteArray.toList_eq]
theorem UM (k:Nat)(h:k<23):∃ x:ByteArray,Az[k]?=some (.string x)∧iV[k]?=some x.toList:=by
 have hl:iV.length=23:=rfl
 have e:iV[k]?=some (iV[k]'(by omega)):=aO (by omega)
 refine⟨⟨(iV[k]'(by omega)).toArray⟩,?_,?_⟩
 ·rw[Az,bP,e];rfl
 ·rw[toList_mk];exact e
def UN (s:ByteArray)(l:List (List UInt8)):Bool:=l.any fun x=>s.toList==x
theorem Rt (s:ByteArray)(k:Nat)(x:List UInt8)(h:iV[k]?=some x):UN s (iV.drop k)=((s.toList==x) || UN s (iV.drop (k+1))):=by
 have hlt:=(aV.1 h).1
 have hx:=(aV.1 h).2
 rw[bY hlt,hx]
 rfl
def lY (s:ByteArray):Bool:=if Aa s then false else if uO s.data.toList then (decide (1≤(s.size:Int))&&decide ((s.size:Int)≤12)) else false
theorem KE (s:ByteArray):lY s=nameB s:=by
 have h1:s.toList.isEmpty=!decide (1≤(s.size:Int)):=by
  have:s.toList.length=s.size:=by rw[ByteArray.toList_eq];rfl
  cases h:s.toList with
  | nil=>rw[h] at this;simp at this;simp[←this]
  | cons a l=>rw[h] at this;simp at this;simp;omega
 unfold lY nameB
 rw[h1]
 cases Aa s <;> cases uO s.data.toList <;> simp
 by_cases h2:s.size≤12
 ·have:(s.size:Int)≤12:=by omega
  simp[h2,this]
 ·have:¬(s.size:Int)≤12:=by omega
  simp[h2,this]
theorem vF (s:ByteArray)(hs:s.size≤9223372036854775807)(w:World):Calls Tryz.prog 126 #[.string s] w fun e w'=>e=.returned (.bool (nameB s))∧Below w.heap.size w w':=by
 rw[←KE]
 obtain⟨W1,hW1⟩:∃ W1,W1=w.alloc (.cells Az.toArray 9):=⟨_,rfl⟩
 have HW:Hid (W1=w.alloc (.cells Az.toArray 9)):=ae hW1
 have HB:Hid (Below w.heap.size w W1):=ae (by rw[hW1];exact (aG _ _).alloc (aF _) _)
 have hcell:Hid (∀ k x,Az[k]?=some x→W1.cell? ⟨w.heap.size,k,none⟩=some x):=ae fun k x hx=>by
  have hh:W1.heap[w.heap.size]?=some (.cells Az.toArray 9):=by rw[hW1];exact aH w _
  simp only[World.cell?,hh]
  simpa using hx
 clear hW1
 go_enter Tryz.func126,Tryz.ntmps126
 go_wp2_with fail
 go_loopw [4] (fun i wr=>∃ k:Nat,k≤23∧i=.int .i64 k∧wr=W1∧Hid (Aa s=UN s (iV.drop k))) (fun i _=>23-(intOf i).toNat)
 case atStart=>exact⟨0,aX _,rfl,by rw[HW.o];rfl,rfl⟩
 case round =>
  obtain⟨k,hk,rfl,rfl,hz⟩:=hrel
  by_cases hlt:k<23
  ·obtain⟨x,hx1,hx2⟩:=UM k hlt
   have hc:=hcell.o k _ hx1
   have hi0:(0:Int)≤(k:Int):=by omega
   have hi1:(k:Int)<23:=by omega
   have hst:Hid (Aa s=((s.toList==x.toList) || UN s (iV.drop (k+1)))):=ae (by rw[hz.o,Rt s k _ hx2])
   clear hz hx1 hx2
   by_cases he:(x.toList==s.toList)=true
   ·have he2:(s.toList==x.toList)=true:=by
     have:x.toList=s.toList:=by simpa using he
     simp[this]
    have hf:Hid (lY s=false):=ae (by unfold lY;rw[hst.o,he2];rfl)
    clear hst he2
    go_wp2_with fail
    go_ret
    exact⟨by rw[hf.o];rfl,HB.o⟩
   ·have he':(x.toList==s.toList)=false:=by simpa using he
    have he2:(s.toList==x.toList)=false:=by
     cases h:(s.toList==x.toList)
     ·rfl
     ·have:s.toList=x.toList:=by simpa using h
      rw[this] at he'
      simp at he'
    have hst2:Hid (Aa s=UN s (iV.drop (k+1))):=ae (by rw[hst.o,he2,Bool.false_or])
    clear hst he2 he
    go_wp2_with fail
    go_roundw
    case rel=>exact⟨k+1,by omega,by go_num,trivial,hst2⟩
    case measure=>simp[intOf];omega
  ·have hr:Hid (Aa s=false):=ae (by rw[hz.o,bW (by show 23≤k;omega)];rfl)
   clear hz
   go_wp2_with fail
   go_loop [5] (fun i=>∃ k:Nat,k≤s.size∧i=.int .i64 k∧Hid (uO s.data.toList=uO (s.data.toList.drop k))) (fun i=>s.size-(intOf i).toNat)
   case atStart=>exact⟨0,aX _,rfl,rfl⟩
   case round =>
    obtain⟨k,hk,rfl,hz⟩:=hrel
    by_cases hlt:k<s.size
    ·have hst:=ae (hz.o.trans (Gy s k hlt))
     clear hz
     by_cases a1:97≤(s[k].toNat:Int)
     ·by_cases a2:(s[k].toNat:Int)≤122
      ·rw[decide_eq_true a1,decide_eq_true a2] at hst
       have hst':Hid (uO s.data.toList=uO (s.data.toList.drop (k+1))):=by
        have:=hst.o;rwa [Bool.and_self,Bool.true_and] at this
       clear hst
       go_wp2_with fail
       go_round
       case rel=>exact⟨k+1,by omega,by go_num,hst'⟩
       case measure=>simp[intOf];omega
      ·have hst':Hid (lY s=false):=by
        have:=hst.o
        rw[decide_eq_false a2,Bool.and_false,Bool.false_and] at this
        exact ae (by unfold lY;rw[hr.o,this];rfl)
       clear hst
       go_wp2_with fail
       go_ret
       exact⟨by rw[hst'.o];rfl,HB.o⟩
     ·have hst':Hid (lY s=false):=by
       have:=hst.o
       rw[decide_eq_false a1,Bool.false_and,Bool.false_and] at this
       exact ae (by unfold lY;rw[hr.o,this];rfl)
      clear hst
      go_wp2_with fail
      go_ret
      exact⟨by rw[hst'.o];rfl,HB.o⟩
    ·have e:k=s.size:=by omega
     subst e
     have hf:Hid (lY s=(decide (1≤(s.size:Int))&&decide ((s.size:Int)≤12))):=ae (by
      have:=hz.o
      rw[bW (by simp)] at this
      unfold lY
      rw[hr.o,this]
      rfl)
     clear hz
     by_cases h1:1≤(s.size:Int)
     ·have d1:decide (1≤(s.size:Int))=true:=decide_eq_true h1
      rw[d1,Bool.true_and] at hf
      go_wp2_with fail
      go_ret
      exact⟨by rw[hf.o];rfl,HB.o⟩
     ·have d1:decide (1≤(s.size:Int))=false:=decide_eq_false h1
      rw[d1,Bool.false_and] at hf
      go_wp2_with fail
      go_ret
      exact⟨by rw[hf.o];rfl,HB.o⟩
end Go.Proofs.YtjhkihkiebnpaaaGreatDoor
namespace Go.Proofs.YtjhkihkiebnpaaaGreatDoor
def Pg (s:ByteArray)(g0 g1:Nat)(q:Int)(a:Act):Prop:=∃ tm:Array Value,a={ tmps:=tm,defers:=[] }∧tm.size=131∧tm.getD 0 undef=.string s∧tm.getD 2 undef=.pointer (some ⟨g0,0,none⟩)∧tm.getD 5 undef=.pointer (some ⟨g1,0,none⟩)∧tm.getD 6 undef=.int .i64 q
theorem Pg.form {s:ByteArray} {g0 g1:Nat} {q:Int} {a:Act} (h:Pg s g0 g1 q a):∃ u:Nat→Value,a={ tmps:=#[.string s,u 1,.pointer (some ⟨g0,0,none⟩),u 3,u 4,.pointer (some ⟨g1,0,none⟩),.int .i64 q,u 7,u 8,u 9,u 10,u 11,u 12,u 13,u 14,u 15,u 16,u 17,u 18,u 19,u 20,u 21,u 22,u 23,u 24,u 25,u 26,u 27,u 28,u 29,u 30,u 31,u 32,u 33,u 34,u 35,u 36,u 37,u 38,u 39,u 40,u 41,u 42,u 43,u 44,u 45,u 46,u 47,u 48,u 49,u 50,u 51,u 52,u 53,u 54,u 55,u 56,u 57,u 58,u 59,u 60,u 61,u 62,u 63,u 64,u 65,u 66,u 67,u 68,u 69,u 70,u 71,u 72,u 73,u 74,u 75,u 76,u 77,u 78,u 79,u 80,u 81,u 82,u 83,u 84,u 85,u 86,u 87,u 88,u 89,u 90,u 91,u 92,u 93,u 94,u 95,u 96,u 97,u 98,u 99,u 100,u 101,u 102,u 103,u 104,u 105,u 106,u 107,u 108,u 109,u 110,u 111,u 112,u 113,u 114,u 115,u 116,u 117,u 118,u 119,u 120,u 121,u 122,u 123,u 124,u 125,u 126,u 127,u 128,u 129,u 130],defers:=[] }:=by
 obtain⟨tm,rfl,h,h0,h2,h5,h6⟩:=h
 have e:tm=#[tm.getD 0 undef,tm.getD 1 undef,tm.getD 2 undef,tm.getD 3 undef,tm.getD 4 undef,tm.getD 5 undef,tm.getD 6 undef,tm.getD 7 undef,tm.getD 8 undef,tm.getD 9 undef,tm.getD 10 undef,tm.getD 11 undef,tm.getD 12 undef,tm.getD 13 undef,tm.getD 14 undef,tm.getD 15 undef,tm.getD 16 undef,tm.getD 17 undef,tm.getD 18 undef,tm.getD 19 undef,tm.getD 20 undef,tm.getD 21 undef,tm.getD 22 undef,tm.getD 23 undef,tm.getD 24 undef,tm.getD 25 undef,tm.getD 26 undef,tm.getD 27 undef,tm.getD 28 undef,tm.getD 29 undef,tm.getD 30 undef,tm.getD 31 undef,tm.getD 32 undef,tm.getD 33 undef,tm.getD 34 undef,tm.getD 35 undef,tm.getD 36 undef,tm.getD 37 undef,tm.getD 38 undef,tm.getD 39 undef,tm.getD 40 undef,tm.getD 41 undef,tm.getD 42 undef,tm.getD 43 undef,tm.getD 44 undef,tm.getD 45 undef,tm.getD 46 undef,tm.getD 47 undef,tm.getD 48 undef,tm.getD 49 undef,tm.getD 50 undef,tm.getD 51 undef,tm.getD 52 undef,tm.getD 53 undef,tm.getD 54 undef,tm.getD 55 undef,tm.getD 56 undef,tm.getD 57 undef,tm.getD 58 undef,tm.getD 59 undef,tm.getD 60 undef,tm.getD 61 undef,tm.getD 62 undef,tm.getD 63 undef,tm.getD 64 undef,tm.getD 65 undef,tm.getD 66 undef,tm.getD 67 undef,tm.getD 68 undef,tm.getD 69 undef,tm.getD 70 undef,tm.getD 71 undef,tm.getD 72 undef,tm.getD 73 undef,tm.getD 74 undef,tm.getD 75 undef,tm.getD 76 undef,tm.getD 77 undef,tm.getD 78 undef,tm.getD 79 undef,tm.getD 80 undef,tm.getD 81 undef,tm.getD 82 undef,tm.getD 83 undef,tm.getD 84 undef,tm.getD 85 undef,tm.getD 86 undef,tm.getD 87 undef,tm.getD 88 undef,tm.getD 89 undef,tm.getD 90 undef,tm.getD 91 undef,tm.getD 92 undef,tm.getD 93 undef,tm.getD 94 undef,tm.getD 95 undef,tm.getD 96 undef,tm.getD 97 undef,tm.getD 98 undef,tm.getD 99 undef,tm.getD 100 undef,tm.getD 101 undef,tm.getD 102 undef,tm.getD 103 undef,tm.getD 104 undef,tm.getD 105 undef,tm.getD 106 undef,tm.getD 107 undef,tm.getD 108 undef,tm.getD 109 undef,tm.getD 110 undef,tm.getD 111 undef,tm.getD 112 undef,tm.getD 113 undef,tm.getD 114 undef,tm.getD 115 undef,tm.getD 116 undef,tm.getD 117 undef,tm.getD 118 undef,tm.getD 119 undef,tm.getD 120 undef,tm.getD 121 undef,tm.getD 122 undef,tm.getD 123 undef,tm.getD 124 undef,tm.getD 125 undef,tm.getD 126 undef,tm.getD 127 undef,tm.getD 128 undef,tm.getD 129 undef,tm.getD 130 undef]:=(VL h).trans (by kernel_rfl)
 refine⟨fun i=>tm.getD i undef,congrArg (fun t=>({ tmps:=t,defers:=[] }:Act)) (e.trans ?_)⟩
 rw[←h0,←h2,←h5,←h6]
end Go.Proofs.YtjhkihkiebnpaaaGreatDoor
namespace Go.Proofs.YtjhkihkiebnpaaaGreatDoor
open Go.RowKit
def mO (k:Int):Bool:=k==1 || k==2
def gp (pre:List C):List C→Int
 | []=>0
 | c::r=>if (!(nameB c.nm)) || !(mO c.k) then 20 else if fO pre c.nm then 21 else gp (pre++[c]) r
theorem JP {l:List C} {k:Nat} {c:C} (h:l[k]?=some c) :
 gp (l.take k) (l.drop k)=if (!(nameB c.nm)) || !(mO c.k) then 20 else if fO (l.take k) c.nm then 21 else gp (l.take (k+1)) (l.drop (k+1)):=by
 obtain⟨h1,e1⟩:=aV.1 h
 rw[bY h1,e1,List.take_succ_eq_append_getElem h1,e1]
 rfl
def jk (l:List C):Int:=if decide (l.length=0) || decide (6<l.length) then 23 else gp [] l
theorem JO.take {w:World} {b o:Nat} {l:List C} (h:JO w b o l)(k:Nat):JO w b o (l.take k):=fun i c hc=>h i c (by
 rw[List.getElem?_take] at hc
 split at hc
 ·exact hc
 ·cases hc)
theorem IE (b o n c:Nat)(l:List C)(hl:l.length=n)(hn:n≤6)(hnc:n≤c)(hp:0<n)(w:World)(hb:b<w.heap.size)(hL:JO w b o l) :
 Calls Tryz.prog 11 #[.slice (some ⟨b,o,none⟩) n c] w fun e w'=>e=.returned (.int .i64 (gp [] l))∧Below w.heap.size w w':=by
 have HL:=ae hL
 have Hl:=ae hl
 clear hL hl
 have hg:((n:Int)==0)=false:=by simp;omega
 have hd:decide (6<(n:Int))=false:=by simp;omega
 go_enter Tryz.func11,Tryz.ntmps11
 go_wp2_with fail
 go_loopw [17] (fun i wr=>∃ k:Nat,k≤n∧i=.int .i64 k∧Below w.heap.size w wr∧Hid (gp [] l=gp (l.take k) (l.drop k))) (fun i _=>n-(intOf i).toNat)
 case atStart=>exact⟨0,aX _,rfl,aG _ _,rfl⟩
 case round =>
  obtain⟨k,hk,rfl,hbl,hz⟩:=hrel
  have hs:=hbl.size
  by_cases hlt:k<n
  ·obtain⟨cc,hc⟩:∃ c,l[k]?=some c:=⟨_,aO (by rw[Hl.o];exact hlt)⟩
   have hst:=ae (hz.o.trans (JP hc))
   obtain⟨c1,c2⟩:=HL.o.below hbl hb k cc hc
   clear hc hz
   obtain⟨cn,ck⟩:=cc
   have hname:=ae (name_any cn)
   have HB:=ae (hbl.alloc hs (.cells #[.string cn,.int .i64 ck] 42))
   have hfind:Hid (∀ w1,Below w.heap.size w w1→Calls Tryz.prog 13 #[.slice (some ⟨b,o,none⟩) k c,.string cn] w1 fun e w' =>
    e=.returned (.tuple #[.int .i64 (gU (l.take k) cn),.bool (fO (l.take k) cn)])∧Below w1.heap.size w1 w'):=ae fun w1 hw1=>by
    have:=oG (some ⟨b,o,none⟩) c (l.take k) (by simp;omega) cn w1 (.inr ⟨b,o,rfl,by have:=hw1.size;omega,(HL.o.below hw1 hb).take k⟩)
    rwa [List.length_take_of_le (by rw[Hl.o];omega)] at this
   by_cases hnm:nameB cn=true
   ·by_cases hkd:mO ck=true
    ·rw[hnm] at hname
     have hst':Hid (gp [] l=if fO (l.take k) cn then 21 else gp (l.take (k+1)) (l.drop (k+1))):=ae (by rw[hst.o,if_neg (by simp[hnm,hkd])])
     clear hst
     have hcases:ck=1∨ck=2:=by
      unfold mO at hkd
      simpa using hkd
     have hk0:(0:Int)≤(k:Int):=by omega
     have hk1:(k:Int)≤(c:Int):=by omega
     clear hkd hnm
     generalize gU (l.take k) cn=fn at *
     by_cases hfb:fO (l.take k) cn=true
     ·rw[hfb] at hfind
      have hst2:Hid (gp [] l=21):=ae (by rw[hst'.o,if_pos hfb])
      clear hst' hfb
      rcases hcases with rfl|rfl
      all_goals
       go_wp2_with fail
       refine (hname.o _).mono ?_
       rintro e w' ⟨rfl,rfl⟩
       go_wp2_with fail
       go_region_held3 (fun w'=>w'.cell? ⟨wr.heap.size,0,none⟩=some (.string cn)) (first|go_keep|(exact (hb3.cell (by simp)).trans (by simp)))
        (first|(go_at_call 13;refine (hfind.o _ HB.o.drew).mono ?_;rintro e w3 ⟨rfl,hb3⟩))
       have HB3:=ae (HB.o.drew.trans (hb3.mono (by simp;omega)))
       clear hb3
       go_wp2_with fail
       go_ret
       exact⟨by rw[hst2.o];rfl,HB3.o⟩
     ·have ac7:fO (l.take k) cn=false:=by simpa using hfb
      rw[ac7] at hfind
      have hst2:Hid (gp [] l=gp (l.take (k+1)) (l.drop (k+1))):=ae (by rw[hst'.o,if_neg hfb])
      clear hst' hfb ac7
      rcases hcases with rfl|rfl
      all_goals
       go_wp2_with fail
       refine (hname.o _).mono ?_
       rintro e w' ⟨rfl,rfl⟩
       go_wp2_with fail
       go_region_held3 (fun w'=>w'.cell? ⟨wr.heap.size,0,none⟩=some (.string cn)) (first|go_keep|(exact (hb3.cell (by simp)).trans (by simp)))
        (first|(go_at_call 13;refine (hfind.o _ HB.o.drew).mono ?_;rintro e w3 ⟨rfl,hb3⟩))
       have hb4:=HB.o.drew.trans (hb3.mono (by simp;omega))
       clear hb3
       go_wp2_with fail
       go_roundw
       case rel=>exact⟨k+1,by omega,by go_num,hb4,hst2⟩
       case measure=>simp[intOf];omega
    ·rw[hnm] at hname
     have hst':Hid (gp [] l=20):=ae (by rw[hst.o,if_pos (by simp[hkd])])
     have h1:(ck != 1)=true:=by unfold mO at hkd;simp at hkd ⊢;omega
     have h2:(ck != 2)=true:=by unfold mO at hkd;simp at hkd ⊢;omega
     clear hst hkd hnm hfind
     go_wp2_with fail
     refine (hname.o _).mono ?_
     rintro e w' ⟨rfl,rfl⟩
     go_wp2_with fail
     go_ret
     exact⟨by rw[hst'.o];rfl,HB.o⟩
   ·have hnm':nameB cn=false:=by simpa using hnm
    rw[hnm'] at hname
    have hst':Hid (gp [] l=20):=ae (by rw[hst.o,if_pos (by simp[hnm'])])
    clear hst hnm hnm' hfind
    go_wp2_with fail
    refine (hname.o _).mono ?_
    rintro e w' ⟨rfl,rfl⟩
    go_wp2_with fail
    go_ret
    exact⟨by rw[hst'.o];rfl,HB.o⟩
  ·have hst:Hid (gp [] l=0):=ae (by rw[hz.o,bW (by rw[Hl.o];omega)];rfl)
   clear hz
   go_wp2_with fail
   go_ret
   exact⟨by rw[hst.o];rfl,hbl⟩
theorem JQ (A:Option Addr)(c:Nat)(l:List C)(hl:l.length≤9223372036854775807)(hc:l.length≤c)(w:World)(hA:l9 w w.heap.size A l) :
 Calls Tryz.prog 11 #[.slice A l.length c] w fun e w'=>e=.returned (.int .i64 (jk l))∧Below w.heap.size w w':=by
 by_cases h0:l.length=0
 ·have e0:jk l=23:=by simp[jk,h0]
  rw[e0,h0]
  clear hA h0 e0
  go_enter Tryz.func11,Tryz.ntmps11
  go_wp2
  go_ret
  exact⟨rfl,aG _ _⟩
 ·by_cases h6:6<l.length
  ·have e0:jk l=23:=by simp[jk,h6]
   have hg:((l.length:Int)==0)=false:=by simp;intro h;subst h;simp at h0
   rw[e0]
   clear hA h0 e0
   generalize l.length=n at *
   go_enter Tryz.func11,Tryz.ntmps11
   go_wp2
   go_ret
   exact⟨rfl,aG _ _⟩
  ·have e0:jk l=gp [] l:=by unfold jk;rw[if_neg];simp[h0,h6]
   rw[e0]
   rcases hA with rfl|⟨b,o,rfl,hb,hL⟩
   ·exact absurd rfl h0
   ·exact IE b o l.length c l rfl (by omega) hc (by omega) w hb hL
def iY (w:World)(S:Nat→Prop)(A:Option Addr)(l:List C):Prop:=l=[]∨∃ b off,A=some ⟨b,off,none⟩∧S b∧JO w b off l
section
variable {w w':World} {S S':Nat→Prop} {B b off:Nat} {A:Option Addr} {m:List C}
theorem iY.kept (h:iY w S A m)(hk:∀ k,S k→w'.heap[k]?=w.heap[k]?):iY w' S A m:=by
 rcases h with h|⟨b,o,hA,hS,h⟩
 ·exact .inl h
 ·refine .inr ⟨b,o,hA,hS,fun i c hc=>?_⟩
  have hcc:∀ o,w'.cell? ⟨b,o,none⟩=w.cell? ⟨b,o,none⟩:=fun o=>aT (hk b hS)
  obtain⟨h1,h2⟩:=h i c hc
  exact⟨(hcc _).trans h1,(hcc _).trans h2⟩
theorem iY.mono (h:iY w S A m)(hS:∀ k,S k→S' k):iY w S' A m:=by
 rcases h with h|⟨b,o,hA,hb,h⟩
 ·exact .inl h
 ·exact .inr ⟨b,o,hA,hS b hb,h⟩
theorem iY.to (h:iY w S A m)(hS:∀ k,S k→k<B):l9 w B A m:=by
 rcases h with h|⟨b,o,hA,hb,h⟩
 ·exact .inl h
 ·exact .inr ⟨b,o,hA,hS b hb,h⟩
end
structure DM where
 nm:ByteArray
 cA:Option Addr
 cc:Nat
 cols:List C
def DM.key (t:DM):ByteArray×List C:=(t.nm,t.cols)
def DAt (w:World)(b off:Nat)(l:List DM):Prop:=∀ i t,l[i]?=some t→w.cell? ⟨b,off+i*2,none⟩=some (.string t.nm)∧w.cell? ⟨b,off+i*2+1,none⟩=some (.slice t.cA t.cols.length t.cc)
structure mf (w:World)(S:Nat→Prop)(A:Option Addr)(l:List DM):Prop where
 at_:l=[]∨∃ b off,A=some ⟨b,off,none⟩∧S b∧DAt w b off l
 cols:∀ t∈l,iY w S t.cA t.cols
 cap:∀ t∈l,t.cols.length≤t.cc
section
variable {w w':World} {S S':Nat→Prop} {B b off:Nat} {A:Option Addr} {l:List DM}
theorem DAt.kept (h:DAt w b off l)(hk:w'.heap[b]?=w.heap[b]?):DAt w' b off l:=fun i t ht=>by
 obtain⟨h1,h2⟩:=h i t ht
 have hc:∀ o,w'.cell? ⟨b,o,none⟩=w.cell? ⟨b,o,none⟩:=fun o=>aT hk
 exact⟨(hc _).trans h1,(hc _).trans h2⟩
theorem mf.kept (h:mf w S A l)(hk:∀ k,S k→w'.heap[k]?=w.heap[k]?):mf w' S A l :=
 ⟨by
   rcases h.at_ with h|⟨b,o,hA,hS,h⟩
   ·exact .inl h
   ·exact .inr ⟨b,o,hA,hS,h.kept (hk b hS)⟩,fun t ht=>(h.cols t ht).kept hk,h.cap⟩
theorem mf.mono (h:mf w S A l)(hS:∀ k,S k→S' k):mf w S' A l :=
 ⟨by
   rcases h.at_ with h|⟨b,o,hA,hb,h⟩
   ·exact .inl h
   ·exact .inr ⟨b,o,hA,hS b hb,h⟩,fun t ht=>(h.cols t ht).mono hS,h.cap⟩
theorem mf.below (h:mf w S A l)(hb:Below B w w')(hS:∀ k,S k→k<B):mf w' S A l:=h.kept fun k hk=>hb.block k (hS k hk)
theorem mf.get {i:Nat} {t:DM} (h:mf w S A l)(ht:l[i]?=some t):∃ b off,A=some ⟨b,off,none⟩∧S b∧w.cell? ⟨b,off+i*2,none⟩=some (.string t.nm)∧w.cell? ⟨b,off+i*2+1,none⟩=some (.slice t.cA t.cols.length t.cc):=by
 rcases h.at_ with rfl|⟨b,off,hA,hS,h⟩
 ·simp at ht
 ·exact⟨b,off,hA,hS,h i t ht⟩
theorem mf.take (h:mf w S A l)(k:Nat):mf w S A (l.take k) :=
 ⟨(by
   rcases h.at_ with rfl|⟨b,o,hA,hS,h'⟩
   ·exact .inl (by simp)
   ·refine .inr ⟨b,o,hA,hS,fun i t ht=>h' i t ?_⟩
    rw[List.getElem?_take] at ht
    split at ht
    ·exact ht
    ·cases ht),fun t ht=>h.cols t (List.mem_of_mem_take ht),fun t ht=>h.cap t (List.mem_of_mem_take ht)⟩
end
def DM.oM (nm:ByteArray)(t:DM):Bool:=t.nm.toList==nm.toList
theorem FV (tn nm:ByteArray)(c1:Option Addr)(n1 m1:Nat)(p:Addr)(w:World)(h0:w.cell? p=some (.string nm)) :
 Calls Tryz.prog 43 #[.agg #[.string tn,.slice c1 n1 m1],.pointer (some p)] w fun e w'=>e=.returned (.bool (tn.toList==nm.toList))∧w.alloc (.cells #[.string tn,.slice c1 n1 m1] 66)=w':=by
 have hp:=block_lt_of_cell h0
 go_enter Tryz.func43,Tryz.ntmps43
 go_wp2
 go_ret
 exact⟨rfl,rfl⟩
theorem FW (A:Option Addr)(c:Nat)(l:List DM)(nm:ByteArray)(pb po:Nat)(w:World) {S:Nat→Prop} (hA:mf w S A l)(hS:∀ k,S k→k<w.heap.size)(hl:l.length≤1073741824)(h0:w.cell? ⟨pb,po,none⟩=some (.string nm)) :
 Calls Tryz.prog 44 #[.slice A l.length c,.func (.func 43) #[] #[.pointer (some ⟨pb,po,none⟩)]] w fun e w'=>e=.returned (.int .i64 (idx (DM.oM nm) l 0))∧Below w.heap.size w w':=by
 obtain⟨n,hn⟩:∃ n,l.length=n:=⟨_,rfl⟩
 have HN:=ae hn
 have HA:=ae hA
 have HS:=ae hS
 have hp:=block_lt_of_cell h0
 have H0:=ae h0
 rw[hn] at hl ⊢
 clear hA hS hn h0
 go_enter Tryz.func44,Tryz.ntmps44
 go_wp2_with fail
 go_loopw [8] (fun i wr=>∃ k:Nat,k≤n∧i=.int .i64 k∧Below w.heap.size w wr∧Hid (idx (DM.oM nm) l 0=idx (DM.oM nm) (l.drop k) k)) (fun i _=>n-(intOf i).toNat)
 case atStart=>exact⟨0,aX _,rfl,aG _ _,ae (by simp)⟩
 case round =>
  obtain⟨k,hk,rfl,hb,HL⟩:=hrel
  have HB:=ae hb
  have hs:=hb.size
  clear hb
  by_cases hlt:k<n
  ·obtain⟨x,hx⟩:∃ x,l[k]?=some x:=⟨_,aO (by rw[HN.o];exact hlt)⟩
   obtain⟨b1,agu,rfl,_,hc1,hc2⟩:=(HA.o.below HB.o HS.o).get hx
   have hq:=ae (FV x.nm nm x.cA x.cols.length x.cc ⟨pb,po,none⟩ wr ((HB.o.cell hp).trans H0.o))
   have HD:=ae (HL.o.trans (nz (p:=DM.oM nm) hx))
   rw[show DM.oM nm x=(x.nm.toList==nm.toList) from rfl] at HD
   generalize (x.nm.toList==nm.toList)=z at hq HD
   obtain⟨xn,cA,cc,cl⟩:=x
   dsimp only at hc1 hc2 hq
   generalize cl.length=n1 at hc2 hq
   clear hx HL
   cases z
   ·go_wp2_with fail
    refine hq.o.mono ?_
    rintro e w3 ⟨rfl,rfl⟩
    have P6:Hid (idx (DM.oM nm) l 0=idx (DM.oM nm) (l.drop (k+1)) (k+1)):=ae (by rw[HD.o];rfl)
    clear HD
    go_wp2_with fail
    go_roundw
    case rel=>exact⟨k+1,by omega,by go_num,HB.o.alloc hs _,P6⟩
    case measure=>simp[intOf];omega
   ·go_wp2_with fail
    refine hq.o.mono ?_
    rintro e w3 ⟨rfl,rfl⟩
    have HF:Hid (idx (DM.oM nm) l 0=(k:Int)):=ae (by rw[HD.o];rfl)
    clear HD
    go_wp2_with fail
    go_ret
    exact⟨by rw[HF.o];rfl,HB.o.alloc hs _⟩
  ·obtain rfl:k=n:=by omega
   have HF:Hid (idx (DM.oM nm) l 0=-1):=ae (by
    rw[HL.o,bW (by rw[HN.o];exact aF _)]
    rfl)
   go_wp2_with fail
   go_ret
   exact⟨by rw[HF.o];rfl,HB.o⟩
theorem uP {α:Type} (p:α→Bool)(l:List α):∀ k:Nat,decide (0≤idx p l k)=l.any p:=by
 induction l with
 | nil=>intro k;simp[idx]
 | cons x l ih =>
   intro k
   unfold idx
   cases h:p x
   ·simp[h,ih]
   ·simp[h]
theorem Ad (A:Option Addr)(c:Nat)(l:List DM)(nm:ByteArray)(pb po:Nat)(w:World) {S:Nat→Prop} (hA:mf w S A l)(hS:∀ k,S k→k<w.heap.size)(hl:l.length≤1073741824)(h0:w.cell? ⟨pb,po,none⟩=some (.string nm)) :
 Calls Tryz.prog 42 #[.slice A l.length c,.func (.func 43) #[] #[.pointer (some ⟨pb,po,none⟩)]] w fun e w'=>e=.returned (.bool (l.any (DM.oM nm)))∧Below w.heap.size w w':=by
 have h:=ae (FW A c l nm pb po w hA hS hl h0)
 rw[←uP (DM.oM nm) l 0]
 generalize idx (DM.oM nm) l 0=z at h
 generalize l.length=n at h
 clear hA hS hl h0
 go_enter Tryz.func42,Tryz.ntmps42
 go_wp2_with fail
 refine h.o.mono ?_
 rintro e w4 ⟨rfl,hb4⟩
 have HB4:=ae hb4
 clear hb4
 go_wp2
 go_ret
 exact⟨rfl,HB4.o⟩
def Gz (pre:List (ByteArray×List C)):List (ByteArray×List C)→Int
 | []=>0
 | d::l=>if nameB d.1=false then 20 else if pre.any (fun o=>o.1.toList==d.1.toList)=true then 21 else if jk d.2=0 then Gz (pre++[d]) l else jk d.2
def Bv (l:List (ByteArray×List C)):Int:=Gz [] l
theorem Nz {l:List DM} {k:Nat} {x:DM} (hx:l[k]?=some x) :
 Gz ((l.take k).map DM.key) ((l.drop k).map DM.key)=if nameB x.nm=false then 20 else if (l.take k).any (DM.oM x.nm)=true then 21 else if jk x.cols=0 then Gz ((l.take (k+1)).map DM.key) ((l.drop (k+1)).map DM.key) else jk x.cols:=by
 obtain⟨h1,e1⟩:=aV.1 hx
 rw[bY h1,e1,List.take_succ_eq_append_getElem h1,e1,List.map_append]
 have e:((l.take k).map DM.key).any (fun o=>o.1.toList==x.nm.toList)=(l.take k).any (DM.oM x.nm):=by rw[List.any_map];rfl
 rw[←e]
 rfl
theorem QO (A:Option Addr)(c:Nat)(l:List DM)(w:World) {S:Nat→Prop} (hA:mf w S A l)(hS:∀ k,S k→k<w.heap.size)(hl:l.length≤1000000)(hlc:l.length≤c)(hcl:∀ t∈l,t.cols.length≤1000000) :
 Calls Tryz.prog 22 #[.slice A l.length c] w fun e w'=>e=.returned (.int .i64 (Bv (l.map DM.key)))∧Below w.heap.size w w':=by
 obtain⟨n,hn⟩:∃ n,l.length=n:=⟨_,rfl⟩
 have HN:=ae hn
 have HA:=ae hA
 have HS:=ae hS
 have lG:=ae hcl
 rw[hn] at hl hlc ⊢
 clear hA hS hcl hn
 go_enter Tryz.func22,Tryz.ntmps22
 go_wp2_with fail
 go_loopw [8] (fun i wr=>∃ k:Nat,k≤n∧i=.int .i64 k∧Below w.heap.size w wr∧Hid (Bv (l.map DM.key)=Gz ((l.take k).map DM.key) ((l.drop k).map DM.key))) (fun i _=>n-(intOf i).toNat)
 case atStart=>exact⟨0,aX _,rfl,aG _ _,ae (by simp[Bv])⟩
 case round =>
  rename World=>wo
  obtain⟨k,hk,rfl,hb,HL⟩:=hrel
  have HB:=ae hb
  have hs:=hb.size
  clear hb
  by_cases hlt:k<n
  ·obtain⟨x,hx⟩:∃ x,l[k]?=some x:=⟨_,aO (by rw[HN.o];exact hlt)⟩
   obtain⟨b,off,rfl,hSb,hc1,hc2⟩:=(HA.o.below HB.o HS.o).get hx
   have hm:=aN hx
   have HD:=ae (HL.o.trans (Nz hx))
   have hnm:=ae (fun w1=>name_any x.nm w1)
   have hcf:=ae (fun g0 w1 (hb:Below w.heap.size w w1)(h0:w1.cell? ⟨g0,0,none⟩=some (.string x.nm))=>Ad (some ⟨b,off,none⟩) c (l.take k) x.nm g0 0 w1 (S:=fun k=>k<w1.heap.size) (((HA.o.take k).below hb HS.o).mono fun k hk=>aK (HS.o k hk) hb.size) (fun k hk=>hk) (by rw[List.length_take];omega) h0)
   have htk:(l.take k).length=k:=by rw[List.length_take,HN.o];omega
   rw[htk] at hcf
   have hco:=ae (fun w1 (hb:Below w.heap.size w w1)=>JQ x.cA x.cc x.cols (by have:=lG.o x hm;omega) (HA.o.cap x hm) w1 (((HA.o.cols x hm).kept fun k hk=>hb.block k (HS.o k hk)).to fun k hk=>aK (HS.o k hk) hb.size))
   obtain⟨JH,xcA,xcc,xcl⟩:=x
   dsimp only at hc1 hc2 hnm hcf hco HD
   generalize nameB JH=q1 at hnm HD
   generalize (l.take k).any (DM.oM JH)=q2 at hcf HD
   obtain⟨ce,hce⟩:∃ ce,jk xcl=ce:=⟨_,rfl⟩
   rw[hce] at hco HD
   generalize xcl.length=xn at hc2 hco
   clear hx hm hSb htk HL hce
   go_wp2_with fail
   refine (hnm.o _).mono ?_
   rintro e w' ⟨rfl,rfl⟩
   cases q1
   ·go_wp2_with fail
    go_ret
    exact⟨by rw[HD.o];rfl,HB.o.alloc hs _⟩
   ·go_wp2_with fail
    refine (hcf.o _ _ (HB.o.alloc hs _) (by simp)).mono ?_
    rintro e w1 ⟨rfl,hb1⟩
    have d1:w1.cell? ⟨wo.heap.size,1,none⟩=some (.slice xcA xn xcc):=(hb1.cell (by simp)).trans (by simp)
    have hx1:wo.heap.size<w1.heap.size:=by have:=hb1.size;simp at this;omega
    have HB1:=ae ((HB.o.alloc hs _).trans (hb1.mono (by simp;omega)))
    clear hb1 hnm hcf
    cases q2
    ·go_wp2_with fail
     refine (hco.o _ HB1.o).mono ?_
     rintro e w2 ⟨rfl,hb2⟩
     have HB2:=ae (HB1.o.trans (hb2.mono HB1.o.size))
     clear hb2 hco d1
     by_cases hc0:ce=0
     ·subst hc0
      have HF:Hid (Bv (l.map DM.key)=Gz ((l.take (k+1)).map DM.key) ((l.drop (k+1)).map DM.key)):=ae (by rw[HD.o];rfl)
      clear HD
      go_wp2_with fail
      go_roundw
      case rel=>exact⟨k+1,by omega,by go_num,HB2.o,HF⟩
      case measure=>simp[intOf];omega
     ·have P7:=ae hc0
      go_wp2_with fail
      go_ret
      exact⟨by rw[HD.o,if_neg (by decide),if_neg (by decide),if_neg P7.o];rfl,HB2.o⟩
    ·go_wp2_with fail
     go_ret
     exact⟨by rw[HD.o];rfl,HB1.o⟩
  ·obtain rfl:k=n:=by omega
   have HF:Hid (Bv (l.map DM.key)=0):=ae (by
    rw[HL.o,bW (by rw[HN.o];exact aF _)]
    rfl)
   go_wp2_with fail
   go_ret
   exact⟨by rw[HF.o];rfl,HB.o⟩
theorem OA (k n:Int)(s:ByteArray)(w:World) :
 Calls Tryz.prog 169 #[.agg #[.int .i64 k,.int .i64 n,.string s]] w fun e w' =>
  e=.returned (.bool (V.okB ⟨k,n,s⟩))∧w.alloc (.cells #[.int .i64 k,.int .i64 n,.string s] 114)=w':=by
 by_cases h1:(k==1)=true
 ·have h12:(k==2)=false:=by simp at h1 ⊢;omega
  by_cases he:s.toList=[]
  ·have hr:V.okB ⟨k,n,s⟩=true:=by simp[V.okB,h1,he]
   have he2:s.toList.isEmpty=true:=by rw[he];rfl
   rw[hr]
   clear hr
   go_enter Tryz.func169,Tryz.ntmps169
   go_wp2
   go_ret
   exact⟨rfl,rfl⟩
  ·have he2:s.toList.isEmpty=false:=by simpa using he
   have hr:V.okB ⟨k,n,s⟩=false:=by simp[V.okB,h12,he]
   rw[hr]
   clear hr he
   go_enter Tryz.func169,Tryz.ntmps169
   go_wp2
   go_ret
   exact⟨rfl,rfl⟩
 ·have h1':(k==1)=false:=by simpa using h1
  clear h1
  by_cases h2:(k==2)=true
  ·by_cases h3:n=0
   ·subst h3
    have hr:V.okB ⟨k,0,s⟩=decide ((s.size:Int)≤40):=by simp[V.okB,h1',h2]
    rw[hr]
    clear hr
    go_enter Tryz.func169,Tryz.ntmps169
    go_wp2
    go_ret
    exact⟨rfl,rfl⟩
   ·have hr:V.okB ⟨k,n,s⟩=false:=by simp[V.okB,h1',h3]
    have h3':(n==0)=false:=by simpa using h3
    rw[hr]
    clear hr h3
    go_enter Tryz.func169,Tryz.ntmps169
    go_wp2
    go_ret
    exact⟨rfl,rfl⟩
  ·have h2':(k==2)=false:=by simpa using h2
   clear h2
   have hr:V.okB ⟨k,n,s⟩=false:=by simp[V.okB,h1',h2']
   rw[hr]
   clear hr
   go_enter Tryz.func169,Tryz.ntmps169
   go_wp2
   go_ret
   exact⟨rfl,rfl⟩
@[go_sem] theorem aab (op:BinOp)(x y:Operand)(xs ys:Array Value)(w:World):(eqGuard op 114 x y (.agg xs) (.agg ys)).run Tryz.prog w=.ok () w:=run_eqGuard_agg w op _ x y xs ys (by kernel_rfl)
@[go_sem] theorem ac1 (xk xn yk yn:Int)(xs ys:ByteArray)(w:World) :
   (binOp .neq 114 (.agg #[.int .i64 xk,.int .i64 xn,.string xs]) (.agg #[.int .i64 yk,.int .i64 yn,.string ys])).run Tryz.prog w=.ok (.bool (!(xk==yk&&(xn==yn&&xs.toList==ys.toList)))) w:=by
  have hS:Tryz.prog.underlying 114=some (.struct (Tryz.prog.fieldsOf 114)):=by kernel_rfl
  have hp:Tryz.prog.stoodInHeld 114=false:=by kernel_rfl
  have u1:=Tryz.underlying3
  have u2:=Tryz.underlying2
  have u3:=Tryz.underlying9
  rw[run_neq_struct,show (10000:Nat)=9999+1 from rfl,run_equalIn_agg w 9999 _ _ _ hS hp]
  simp only[Program.fieldsOf,Tryz.underlying114]
  go_simp
  by_cases h1:xk=yk <;> by_cases h2:xn=yn <;> by_cases h3:xs.toList=ys.toList <;> simp[h1,h2,h3]
@[go_sem] theorem ac2 (xk xn yk yn:Int)(xs ys:ByteArray)(w:World) :
   (binOp .eql 114 (.agg #[.int .i64 xk,.int .i64 xn,.string xs]) (.agg #[.int .i64 yk,.int .i64 yn,.string ys])).run Tryz.prog w=.ok (.bool (xk==yk&&(xn==yn&&xs.toList==ys.toList))) w:=by
  have hS:Tryz.prog.underlying 114=some (.struct (Tryz.prog.fieldsOf 114)):=by kernel_rfl
  have hp:Tryz.prog.stoodInHeld 114=false:=by kernel_rfl
  have u1:=Tryz.underlying3
  have u2:=Tryz.underlying2
  have u3:=Tryz.underlying9
  rw[run_eql_struct,show (10000:Nat)=9999+1 from rfl,run_equalIn_agg w 9999 _ _ _ hS hp]
  simp only[Program.fieldsOf,Tryz.underlying114]
  go_simp
  by_cases h1:xk=yk <;> by_cases h2:xn=yn <;> by_cases h3:xs.toList=ys.toList <;> simp[h1,h2,h3]
@[go_sem] theorem ac3 (op:BinOp)(x y:Operand)(xs ys:Array Value)(w:World):(eqGuard op 42 x y (.agg xs) (.agg ys)).run Tryz.prog w=.ok () w:=run_eqGuard_agg w op _ x y xs ys (by kernel_rfl)
@[go_sem] theorem agk (xn yn:ByteArray)(xk yk:Int)(w:World) :
   (binOp .neq 42 (.agg #[.string xn,.int .i64 xk]) (.agg #[.string yn,.int .i64 yk])).run Tryz.prog w=.ok (.bool (!(xn.toList==yn.toList&&xk==yk))) w:=by
  have hS:Tryz.prog.underlying 42=some (.struct (Tryz.prog.fieldsOf 42)):=by kernel_rfl
  have hp:Tryz.prog.stoodInHeld 42=false:=by kernel_rfl
  have u1:=Tryz.underlying3
  have u3:=Tryz.underlying9
  rw[run_neq_struct,show (10000:Nat)=9999+1 from rfl,run_equalIn_agg w 9999 _ _ _ hS hp]
  simp only[Program.fieldsOf,Tryz.underlying42]
  go_simp
  by_cases h1:xk=yk <;> by_cases h3:xn.toList=yn.toList <;> simp[h1,h3]
theorem l9.get {w:World} {B:Nat} {A:Option Addr} {l:List C} (h:l9 w B A l) {i:Nat} {x:C} (hx:l[i]?=some x):∃ b off,A=some ⟨b,off,none⟩∧b<B∧w.cell? ⟨b,off+i*2,none⟩=some (.string x.nm)∧w.cell? ⟨b,off+i*2+1,none⟩=some (.int .i64 x.k):=by
 rcases h with rfl|⟨b,off,e,hb,h⟩
 ·simp at hx
 ·exact⟨b,off,e,hb,h i x hx⟩
theorem rG (A D:Option Addr)(c d:Nat)(l:List C)(hl:l.length≤1000000)(w:World)(hA:l9 w w.heap.size A l)(hD:l9 w w.heap.size D l) :
 Calls Tryz.prog 12 #[.slice A l.length c,.slice D l.length d] w fun e w'=>e=.returned (.bool true)∧Below w.heap.size w w':=by
 obtain⟨n,hn⟩:∃ n,l.length=n:=⟨_,rfl⟩
 have HN:=ae hn
 have HA:=ae hA
 have HD:=ae hD
 rw[hn] at hl ⊢
 clear hA hD hn
 go_enter Tryz.func12,Tryz.ntmps12
 go_wp2_with fail
 go_loopw [5] (fun i wr=>∃ k:Nat,k≤n∧i=.int .i64 k∧Below w.heap.size w wr) (fun i _=>n-(intOf i).toNat)
 case atStart=>exact⟨0,aX _,rfl,aG _ _⟩
 case round =>
  rename World=>wo
  obtain⟨k,hk,rfl,hb⟩:=hrel
  have HB:=ae hb
  clear hb
  by_cases hlt:k<n
  ·obtain⟨x,hx⟩:∃ x,l[k]?=some x:=⟨_,aO (by rw[HN.o];exact hlt)⟩
   obtain⟨b,off,rfl,hb1,hc1,hc2⟩:=HA.o.get hx
   obtain⟨b2,aff,rfl,hb2,hd1,hd2⟩:=HD.o.get hx
   have hc1:=(HB.o.cell (p:=⟨b,off+k*2,none⟩) hb1).trans hc1
   have hc2:=(HB.o.cell (p:=⟨b,off+k*2+1,none⟩) hb1).trans hc2
   have hd1:=(HB.o.cell (p:=⟨b2,aff+k*2,none⟩) hb2).trans hd1
   have hd2:=(HB.o.cell (p:=⟨b2,aff+k*2+1,none⟩) hb2).trans hd2
   obtain⟨xn,xk⟩:=x
   dsimp only at hc1 hc2 hd1 hd2
   have e1:(xn.toList==xn.toList)=true:=beq_self_eq_true _
   have e2:(xk==xk)=true:=beq_self_eq_true _
   have hk0:(0:Int)≤(k:Int):=by omega
   have hkn:(k:Int)<(n:Int):=by omega
   clear hx
   go_wp2_with fail
   go_quiet (fail)
   go_wp2_with fail
   go_roundw
   case rel=>exact⟨k+1,by omega,by go_num,⟨HB.o.os,HB.o.tape,HB.o.output,HB.o.size,HB.o.block⟩⟩
   case measure=>simp[intOf];omega
  ·obtain rfl:k=n:=by omega
   go_wp2_with fail
   go_ret
   exact⟨rfl,HB.o⟩
end Go.Proofs.YtjhkihkiebnpaaaGreatDoor
namespace Go.Proofs.YtjhkihkiebnpaaaGreatDoor
open Go.ChangeShapes Go.WideShapes Go.Deep Go.RowKit
section
variable {H:Type} {enc:TypeId×Value→H} {P:Program} {w:World} {base:Nat} {spare:Nat→Bool} {held:Bool}
theorem Gx (hl:laidOutB P=true) {W W':World} (hb:Below W.heap.size W W'):∀ (ts:List TypeId)(vs:List Value)(ds:List (DataW H))(ps:List MemPlace),(ts.all fun t=>P.readableRec t&&decide (t<P.types.size))=true →
 DataW.TrodAll enc P W 0 (fun _=>true) true ts vs ds ps→(∀ x∈ps,x.block<W.heap.size)→DataW.TrodAll enc P W' 0 (fun b=>decide (b<W.heap.size)) true ts vs ds ps:=by
 intro ts
 induction ts with
 | nil =>
   intro vs ds ps _ h _
   cases vs <;> cases ds <;> first|exact h|exact h.elim
 | cons t ts ih =>
   intro vs ds ps hr h hlt
   cases vs with
   | nil=>cases ds <;> exact h.elim
   | cons v vs =>
     cases ds with
     | nil=>exact h.elim
     | cons d ds =>
       obtain⟨p,q,h1,h2,rfl⟩:=h
       rw[List.all_cons,Bool.and_eq_true,Bool.and_eq_true,decide_eq_true_eq] at hr
       exact⟨p,q,Below.trod hl hr.1.1 hr.1.2 h1 hb (fun x hx=>hlt x (List.mem_append_left _ hx)),ih vs ds q hr.2 h2 (fun x hx=>hlt x (List.mem_append_right _ hx)),rfl⟩
theorem Xh {f:Func} {s:ChangeSpec} {W W':World} {args:Array Value} {ds gs:List (DataW H)} {before:List MemPlace} {tb:TypeId}
 (hl:laidOutB P=true)(hr:(f.params.toList.all fun t=>P.readableRec t&&decide (t<P.types.size))=true)(hb:P.underlying tb=some .bool)(hres:f.resultTypes=#[tb])(hvars:s.vars=[])
 (hW:DataW.Whole enc P f.params.toList s.vars false W args.toList ds gs before)(h1:(s.fn H (ds++gs)).results=[.lit (.bool true)])(h2:(s.fn H (ds++gs)).args=ds)(h3:(s.fn H (ds++gs)).vars=[])
 (hbelow:Below W.heap.size W W'):s.post enc P f false true false false W args (.bool true) W':=by
 have hW':=hW
 obtain⟨p,q,hA,hV,rfl,hfz,hnd⟩:=hW
 rw[hvars] at hV
 have hq:q=[]:=by
  cases gs with
  | nil=>exact hV
  | cons g gs=>exact hV.elim
 subst hq
 have hlt:∀ x∈p,x.block<W.heap.size:=fun x hx=>by simpa using hW'.lt x (by simpa using hx)
 refine⟨ds,gs,p++[],[],p,[],hW',?_,?_,?_,hbelow.frame _,fun h=>by cases h⟩
 ·rw[h1,hres]
  exact trodAll_cons_mk (shut_bool hb _) trodAll_mk0
 ·rw[h2]
  exact Gx hl hbelow _ _ _ _ hr hA hlt
 ·rw[h3,hvars];rfl
end
end Go.Proofs.YtjhkihkiebnpaaaGreatDoor
