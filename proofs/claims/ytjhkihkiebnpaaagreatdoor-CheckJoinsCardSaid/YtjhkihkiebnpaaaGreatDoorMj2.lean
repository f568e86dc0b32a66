/-
  A region that draws its order, whose last operation (k) may write what the loads read: a load may be taken first where the cells hold until k. No program in sight.
-/
import Derived.Test.YtjhkihkiebnpaaaGreatDoorMj0
import Derived.OrdersHeld
import Derived.Deep.RegionHeld
import Derived.KernelRfl
import Derived.Shelf.Strings.Builder1
import Derived.Shelf.Strings.Builder2
import Derived.Shelf.Strings.OnBuilder
import Derived.Shelf.Small.Strs
import Derived.Shelf.Strconv.Itoa0
import Derived.Shelf.Strconv.Itoa1
import Derived.Shelf.LaysM
import Derived.Shelf.Strconv.Itoa2
import Derived.Shelf.Strconv.Itoa3
import Derived.Shelf.Strconv.Itoa4
import Derived.Shelf.Strconv.ParseIntEmpty
import Derived.Shelf.Strconv.Clone
import Derived.Shelf.Strconv.SyntaxError
import Derived.Shelf.LaysC
import Derived.Shelf.Strconv.ToError
import Derived.Shelf.Strconv.Lower
import Derived.Shelf.Strconv.ParseUint10
import Derived.Shelf.Strconv.ParseUint10Empty
import Derived.Shelf.Strconv.ParseUint10Any
import Derived.Shelf.Strconv.ParseInt10
import Derived.Shelf.Strconv.RangeError
import Derived.Shelf.Strconv.ToErrorRange
import Derived.Shelf.Strconv.ParseUintEmpty
import Derived.Shelf.Strconv.ParseUint10b64
import Derived.Shelf.Strconv.ParseUint10b32
import Derived.Shelf.Strconv.ParseUint10b16
import Derived.Shelf.Strconv.ParseUint10b8
import Derived.Shelf.Strconv.ParseUint10At
import Derived.Shelf.Strconv.ParseInt10At64
import Derived.Shelf.Strconv.ParseInt10At32
import Derived.Shelf.Strconv.ParseInt10At16
import Derived.Shelf.Strconv.ParseInt10At8
import Derived.Shelf.Strconv.ParseInt10All
import Derived.Shelf.Strconv.ParseIntPublic10
import Derived.Shelf.Strconv.ErrVarParseInt
import Derived.Shelf.Strings.Search1
import Derived.Shelf.Sort.Plain
import Derived.Shelf.Slices.CompactS
import Derived.Shelf.Slices.In.SortNone
import Derived.Test.YtjhkihkiebnpaaaGreatDoorProg
import Derived.Orders
import Derived.Below
set_option linter.unusedVariables false
set_option linter.unusedSimpArgs false
set_option maxRecDepth 100000
set_option maxHeartbeats 40000000
namespace Go.Proofs.YtjhkihkiebnpaaaGreatDoor
namespace dK
section
variable {P:Program} {ops:Array Oper} {Q:Exit→Act→World→Prop} {md:Region.Mode} {S:World→Prop} {k:Nat}
def iw (P:Program)(md:Region.Mode)(ops:Array Oper)(Q:Exit→Act→World→Prop)(S:World→Prop)(k:Nat):Nat→Array Bool→Act→World→Prop
 | 0,listed,a,w=>Region.ready md ops listed=[]∧Q .normal a w
 | fuel+1,listed,a,w =>
   (Region.ready md ops listed=[]→Q .normal a w) ∧
   ∀ i∈Region.ready md ops listed,wpOp P ops Q i (fun a' w'=>(i≠k→S w')∧iw P md ops Q S k fuel (listed.setIfInBounds i true) a' w') a w
theorem lZ:∀ (fuel:Nat)(listed:Array Bool)(a:Act)(w:World),iw P md ops Q S k fuel listed a w→wpAny P md ops Q fuel listed a w
 | 0,_,_,_,h=>h
 | fuel+1,_,_,_,h=>⟨h.1,fun i hi=>wpOp_mono (fun a' w' h'=>lZ fuel _ a' w' h'.2) (h.2 i hi)⟩
theorem tK {i:Nat} {oi:Oper} {v:Value} {C:List Nat} (hi:ops[i]?=some oi)(hsel:∀ (j:Nat)(o:Oper) cs b,ops[j]?=some o→o.op≠.select cs b)
 (hQ:∀ c a w,Q (.panic c) (a.put oi.dst v) w→Q (.panic c) a w)(hkC:k∈C)
 (hC:∀ c∈C,c≠i→∀ o,ops[c]?=some o→∃ e∈o.after,Region.binds md e=true∧e.on∈C) :
 ∀ (fuel:Nat)(listed:Array Bool)(a:Act)(w:World),
   (∀ j oj,ops[j]?=some oj→j≠i→listed.getD j true=false→(∀ e∈oj.after,Region.binds md e=true→e.on≠i)→oi.apart ops oj=true) →
   (∀ c∈C,listed.getD c true=false) →
   i∈Region.ready md ops listed→YieldsIf P ops S oi v a→S w →
   iw P md ops Q S k fuel (listed.setIfInBounds i true) (a.put oi.dst v) w→iw P md ops Q S k (fuel+1) listed a w:=by
 intro fuel
 induction fuel with
 | zero =>
   intro listed a w _ _ hr hy hS H
   refine⟨fun h=>(by rw[h] at hr;cases hr),fun j hj=>?_⟩
   by_cases hji:j=i
   ·subst hji;exact hy.wpOp hi hS ⟨fun _=>hS,H⟩
   ·have:=ready_mono hj hji
    rw[H.1] at this
    cases this
 | succ fuel ih =>
   intro listed a w hfree hun hr hy hS H
   refine⟨fun h=>(by rw[h] at hr;cases hr),fun j hj=>?_⟩
   by_cases hji:j=i
   ·subst hji;exact hy.wpOp hi hS ⟨fun _=>hS,H⟩
   ·have h1:=H.2 j (ready_mono hj hji)
    obtain⟨hjun,oj,hoj,hall⟩:=mem_ready.1 hj
    have hjC:j ∉ C:=fun hm=>by
     obtain⟨e,he,hb,heC⟩:=hC j hm hji oj hoj
     have t1:=hall e he hb
     have t2:=hun e.on heC
     rcases Nat.lt_or_ge e.on listed.size with h'|h'
     ·simp[h'] at t1 t2;rw[t1] at t2;cases t2
     ·simp[Array.getElem?_eq_none h'] at t1
    have hjk:j≠k:=fun e=>hjC (by rw[e];exact hkC)
    have hnot:∀ e∈oj.after,Region.binds md e=true→e.on≠i:=fun e he hb heq=>by
     have h1:=hall e he hb
     have h0:=(mem_ready.1 hr).1
     rw[heq] at h1
     rcases Nat.lt_or_ge i listed.size with h'|h'
     ·simp[h'] at h0 h1;rw[h0] at h1;cases h1
     ·simp[Array.getElem?_eq_none h'] at h1
    have h2:=wpOp_putIf hoj (hfree j oj hoj hji hjun hnot) (fun cs b=>hsel i oi cs b hi) (fun cs b=>hsel j oj cs b hoj) hQ hy h1
    have hfree':∀ k ok,ops[k]?=some ok→k≠i→(listed.setIfInBounds j true).getD k true=false →
     (∀ e∈ok.after,Region.binds md e=true→e.on≠i)→oi.apart ops ok=true:=fun k ok hk hki hun hno=>by
     refine hfree k ok hk hki ?_ hno
     by_cases hjk:j=k
     ·subst hjk;exact hjun
     ·rw[getD_set_ne true hjk] at hun;exact hun
    have hun':∀ c∈C,(listed.setIfInBounds j true).getD c true=false:=fun c hc=>by
     have hne:j≠c:=fun e=>hjC (by rw[e];exact hc)
     rw[getD_set_ne true hne];exact hun c hc
    refine wpOp_mono (fun a' w' h3=>⟨h3.2.1,ih (listed.setIfInBounds j true) a' w' hfree' hun' (ready_mono hr (Ne.symm hji)) h3.1 (h3.2.1 hjk) ?_⟩) h2
    rw[Array.setIfInBounds_comm _ _ hji]
    exact h3.2.2
def tN (md:Region.Mode)(ops:Array Oper)(listed:Array Bool)(C:List Nat)(i k:Nat):Bool :=
 C.contains k&&C.all fun c=>(!(listed.getD c true))&&(Nat.beq c i || match ops[c]? with
  | some o=>o.after.any fun e=>Region.binds md e&&C.contains e.on
  | none=>true)
theorem dI {i:Nat} {oi:Oper} {v:Value} {C:List Nat} {fuel:Nat} {listed:Array Bool} {a:Act} {w:World} (hi:ops[i]?=some oi)
 (hs:Region.noSelect ops=true)(hf:Region.free md ops listed i=true)(hr:(Region.ready md ops listed).contains i=true)(hc:tN md ops listed C i k=true)
 (hQ:∀ c a w,Q (.panic c) (a.put oi.dst v) w→Q (.panic c) a w)(hy:YieldsIf P ops S oi v a)(hS:S w)
 (h:iw P md ops Q S k fuel (listed.setIfInBounds i true) (a.put oi.dst v) w):iw P md ops Q S k (fuel+1) listed a w:=by
 unfold tN at hc
 simp only[Bool.and_eq_true,List.all_eq_true,Bool.or_eq_true,Nat.beq_eq] at hc
 obtain⟨hk,hc⟩:=hc
 refine tK hi (Region.noSelect_spec hs) hQ (by simpa using hk) (fun c hm hne o ho=>?_) fuel listed a w (Region.free_spec hi hf) (fun c hm=>by have:=(hc c hm).1;simpa using this) (by simpa using hr) hy hS h
 rcases (hc c hm).2 with h'|h'
 ·exact absurd h' hne
 ·rw[ho] at h'
  simp only[Array.any_eq_true,Bool.and_eq_true] at h'
  obtain⟨n,hn,hb,hcn⟩:=h'
  exact⟨o.after[n],Array.getElem_mem hn,hb,by simpa using hcn⟩
theorem RH {i:Nat} {oi:Oper} {v:Value} {C:List Nat} {fuel:Nat} {listed:Array Bool} {a:Act} {w:World} (hi:ops[i]?=some oi)
 (hb:(Region.noSelect ops&&(Region.free md ops listed i&&((Region.ready md ops listed).contains i&&tN md ops listed C i k)))=true)
 (hQ:∀ c a w,Q (.panic c) (a.put oi.dst v) w→Q (.panic c) a w)(hy:YieldsIf P ops S oi v a)(hS:S w)
 (h:iw P md ops Q S k fuel (listed.setIfInBounds i true) (a.put oi.dst v) w):iw P md ops Q S k (fuel+1) listed a w:=by
 simp only[Bool.and_eq_true] at hb
 exact dI hi hb.1 hb.2.1 hb.2.2.1 hb.2.2.2 hQ hy hS h
def dJ (P:Program)(md:Region.Mode)(ops:Array Oper)(Q:Exit→Act→World→Prop)(S:World→Prop)(k:Nat)(fuel:Nat)(listed:Array Bool)(a:Act)(w:World)(rs:List Nat):Prop :=
 ∀ i∈rs,wpOp P ops Q i (fun a' w'=>(i≠k→S w')∧iw P md ops Q S k fuel (listed.setIfInBounds i true) a' w') a w
theorem dJ.nil {fuel:Nat} {listed:Array Bool} {a:Act} {w:World}:dJ P md ops Q S k fuel listed a w []:=fun _ h=>by cases h
theorem dJ.cons {fuel:Nat} {listed:Array Bool} {a:Act} {w:World} {i:Nat} {o:Oper} {rs:List Nat} (ho:ops[i]?=some o)
 (h:∀ K':Act→World→Prop,Shut (∀ a w,S w→(S w→iw P md ops Q S k fuel (listed.setIfInBounds i true) a w)→K' a w)→if Region.wanted o (yielded ops a.tmps)=true then Oper.wp P o a w K' Q else K' (a.put o.dst undef) w)
 (hs:dJ P md ops Q S k fuel listed a w rs):dJ P md ops Q S k fuel listed a w (i::rs):=fun j hj=>by
 rcases bZ.1 hj with rfl|hj
 ·exact wpOp_step ho (fun K' hK=>h K' (fun a w hS hW=>hK a w ⟨fun _=>hS,hW hS⟩))
 ·exact hs j hj
theorem dJ.last {fuel:Nat} {listed:Array Bool} {a:Act} {w:World} {o:Oper} (ho:ops[k]?=some o)
 (h:∀ K':Act→World→Prop,Shut (∀ a w,iw P md ops Q S k fuel (listed.setIfInBounds k true) a w→K' a w)→if Region.wanted o (yielded ops a.tmps)=true then Oper.wp P o a w K' Q else K' (a.put o.dst undef) w) :
 dJ P md ops Q S k fuel listed a w [k]:=fun j hj=>by
 obtain rfl:j=k:=by simpa using hj
 exact wpOp_step ho (fun K' hK=>h K' (fun a w hW=>hK a w ⟨fun e=>absurd rfl e,hW⟩))
theorem dM {rs:List Nat} {fuel:Nat} {listed:Array Bool} {a:Act} {w:World} (hr:Region.ready md ops listed=rs)(hne:rs≠[])
 (h:dJ P md ops Q S k fuel listed a w rs):iw P md ops Q S k (fuel+1) listed a w:=⟨fun h0=>absurd (hr ▸ h0) hne,hr ▸ h⟩
theorem gW {listed:Array Bool} {a:Act} {w:World} (hr:Region.ready md ops listed=[])(h:Q .normal a w) :
 ∀ fuel,iw P md ops Q S k fuel listed a w
 | 0=>⟨hr,h⟩
 | _+1=>⟨fun _=>h,by rw[hr];simp⟩
theorem iP {id:Nat} {a:Act} {w:World} (S:World→Prop)(k:Nat)(hm:P.follows .mixedOrders=true)(hS:S w.drew)
 (h:S w.drew→iw P .any ops Q S k ops.size (Array.replicate ops.size false) a w.drew):(Code.region id ops true).wp P Q a w :=
 wp_region_any hm (lZ _ _ _ _ (h hS))
end
end dK
end Go.Proofs.YtjhkihkiebnpaaaGreatDoor
namespace Go.Proofs
open Go.Shelf
def Tryz.lays156_ren:Go.Shelf.Ren:=⟨fun|156=>61|165=>107|166=>108|169=>109|240=>142|241=>143|276=>162|277=>163|n=>n,fun|31=>23|9=>9|3=>3|4=>4|0=>0|20=>20|72=>160|76=>164|70=>158|37=>151|75=>163|127=>193|164=>210|5=>5|80=>166|n=>n,fun|n=>n⟩
theorem Tryz.lays156:Go.Proofs.Lays.n156 Tryz.prog Tryz.lays156_ren:={
 mixed:=by kernel_rfl
 f156:=Tryz.func61.trans (aB (by kernel_rfl))
 f165:=Tryz.func107.trans (aB (by kernel_rfl))
 f166:=Tryz.func108.trans (aB (by kernel_rfl))
 f169:=Tryz.func109.trans (aB (by kernel_rfl))
 f240:=Tryz.func142.trans (aB (by kernel_rfl))
 f241:=Tryz.func143.trans (aB (by kernel_rfl))
 f276:=Tryz.func162.trans (aB (by kernel_rfl))
 f277:=Tryz.func163.trans (aB (by kernel_rfl))
 t0:=Tryz.underlying0
 a0:=Tryz.isAgg0
 z0:=Tryz.sizeOf0
 v0:=Tryz.zeroValue0
 t3:=Tryz.underlying3
 a3:=Tryz.isAgg3
 z3:=Tryz.sizeOf3
 v3:=Tryz.zeroValue3
 t4:=Tryz.underlying4
 a4:=Tryz.isAgg4
 z4:=Tryz.sizeOf4
 v4:=Tryz.zeroValue4
 t9:=Tryz.underlying9
 a9:=Tryz.isAgg9
 z9:=Tryz.sizeOf9
 v9:=Tryz.zeroValue9
 t20:=Tryz.underlying20
 a20:=Tryz.isAgg20
 z20:=Tryz.sizeOf20
 v20:=Tryz.zeroValue20
 t31:=Tryz.underlying23
 a31:=Tryz.isAgg23
 z31:=Tryz.sizeOf23
 v31:=Tryz.zeroValue23
 t37:=Tryz.underlying151
 a37:=Tryz.isAgg151
 z37:=Tryz.sizeOf151
 v37:=Tryz.zeroValue151
 t70:=Tryz.underlying158
 a70:=Tryz.isAgg158
 z70:=Tryz.sizeOf158
 v70:=Tryz.zeroValue158
 t72:=Tryz.underlying160
 a72:=Tryz.isAgg160
 z72:=Tryz.sizeOf160
 v72:=Tryz.zeroValue160
 t75:=Tryz.underlying163
 a75:=Tryz.isAgg163
 z75:=Tryz.sizeOf163
 v75:=Tryz.zeroValue163
 t76:=Tryz.underlying164
 a76:=Tryz.isAgg164
 z76:=Tryz.sizeOf164
 v76:=Tryz.zeroValue164
 t127:=Tryz.underlying193
 a127:=Tryz.isAgg193
 z127:=Tryz.sizeOf193
 v127:=Tryz.zeroValue193
 t164:=Tryz.underlying210
 a164:=Tryz.isAgg210
 z164:=Tryz.sizeOf210
 v164:=Tryz.zeroValue210 }
theorem Tryz.Builder_Extra_156:Builder.Extra Tryz.prog Tryz.lays156_ren:={
 sizeBuilder:=by kernel_rfl
 liesBuilder:=by kernel_rfl
 t5:=Tryz.underlying5
 a5:=Tryz.isAgg5
 z5:=Tryz.sizeOf5
 v5:=Tryz.zeroValue5
 infoByte:=by kernel_rfl
 cellsByte:=by kernel_rfl
 sizeByte:=by kernel_rfl
 neB5:=by decide }
open Go.RowKit in
theorem Tryz.strings_Join_none (a:Option Addr)(c:Nat)(sep:ByteArray)(w:World) :
 Calls Tryz.prog 61 #[.slice a 0 c,.string sep] w fun e w'=>e=.returned (.string ⟨#[]⟩)∧w'=w:=Any.strings_Join_none Tryz.lays156 Tryz.Builder_Extra_156 a c sep w
open Go.RowKit in
theorem Tryz.strings_Join (bk o c:Nat)(xs:List ByteArray)(sep:ByteArray)(w:World)(hcells:∀ (j:Nat) x,xs[j]?=some x→w.cell? ⟨bk,o+j,none⟩=some (.string x))(hbk:bk<w.heap.size)(hN:xs.length≤140737488355328)(hcap:xs.length≤c)(hlen:(Lib.join (xs.map (·.data.toList)) sep.data.toList).length≤140737488355328) :
 Calls Tryz.prog 61 #[.slice (some ⟨bk,o,none⟩) xs.length c,.string sep] w fun e w'=>e=.returned (.string ⟨(Lib.join (xs.map (·.data.toList)) sep.data.toList).toArray⟩)∧Below w.heap.size w w':=Any.strings_Join Tryz.lays156 Tryz.Builder_Extra_156 bk o c xs sep w hcells hbk hN hcap hlen
def Tryz.lays137_ren:Go.Shelf.Ren:=⟨fun|137=>160|217=>178|266=>187|n=>n,fun|9=>9|5=>5|3=>3|n=>n,fun|n=>n⟩
theorem Tryz.lays137:Go.Proofs.Lays.n137 Tryz.prog Tryz.lays137_ren:={
 mixed:=by kernel_rfl
 f137:=Tryz.func160.trans (aB (by kernel_rfl))
 f217:=Tryz.func178.trans (aB (by kernel_rfl))
 f266:=Tryz.func187.trans (aB (by kernel_rfl))
 t3:=Tryz.underlying3
 a3:=Tryz.isAgg3
 z3:=Tryz.sizeOf3
 v3:=Tryz.zeroValue3
 t5:=Tryz.underlying5
 a5:=Tryz.isAgg5
 z5:=Tryz.sizeOf5
 v5:=Tryz.zeroValue5
 t9:=Tryz.underlying9
 a9:=Tryz.isAgg9
 z9:=Tryz.sizeOf9
 v9:=Tryz.zeroValue9 }
open Go.RowKit in
theorem Tryz.strings_IndexByte (s:ByteArray)(c:Int)(w:World) :
 Calls Tryz.prog 160 #[.string s,.int .u8 c] w fun e w'=>e=.returned (.int .i64 (Lib.indexByte s.data.toList c.toNat.toUInt8))∧w'=w:=Any.strings_IndexByte Tryz.lays137 s c w
def Tryz.laysM173_ren:Go.Shelf.Ren:=⟨fun|173=>62|246=>110|283=>144|284=>145|285=>146|286=>147|129=>122|317=>164|318=>165|319=>166|320=>167|337=>179|338=>180|n=>n,fun|2=>2|3=>3|9=>9|4=>4|171=>195|0=>0|53=>178|37=>151|5=>5|173=>197|212=>215|51=>176|20=>20|213=>216|46=>127|232=>233|233=>234|n=>n,fun|17=>0|18=>4|19=>5|n=>n⟩
theorem Tryz.laysM173:Go.Proofs.LaysM.n173 Tryz.prog Tryz.laysM173_ren:={
 mixed:=by kernel_rfl
 f129:=Tryz.func122.trans (aB (by kernel_rfl))
 f173:=Tryz.func62.trans (aB (by kernel_rfl))
 f246:=Tryz.func110.trans (aB (by kernel_rfl))
 f283:=Tryz.func144.trans (aB (by kernel_rfl))
 f284:=Tryz.func145.trans (aB (by kernel_rfl))
 f285:=Tryz.func146.trans (aB (by kernel_rfl))
 f286:=Tryz.func147.trans (aB (by kernel_rfl))
 f317:=Tryz.func164.trans (aB (by kernel_rfl))
 f318:=Tryz.func165.trans (aB (by kernel_rfl))
 f319:=Tryz.func166.trans (aB (by kernel_rfl))
 f320:=Tryz.func167.trans (aB (by kernel_rfl))
 f337:=Tryz.func179.trans (aB (by kernel_rfl))
 f338:=Tryz.func180.trans (aB (by kernel_rfl))
 t0:=Tryz.underlying0
 a0:=Tryz.isAgg0
 z0:=Tryz.sizeOf0
 v0:=Tryz.zeroValue0
 t2:=Tryz.underlying2
 a2:=Tryz.isAgg2
 z2:=Tryz.sizeOf2
 v2:=Tryz.zeroValue2
 t3:=Tryz.underlying3
 a3:=Tryz.isAgg3
 z3:=Tryz.sizeOf3
 v3:=Tryz.zeroValue3
 t4:=Tryz.underlying4
 a4:=Tryz.isAgg4
 z4:=Tryz.sizeOf4
 v4:=Tryz.zeroValue4
 t5:=Tryz.underlying5
 a5:=Tryz.isAgg5
 z5:=Tryz.sizeOf5
 v5:=Tryz.zeroValue5
 t9:=Tryz.underlying9
 a9:=Tryz.isAgg9
 z9:=Tryz.sizeOf9
 v9:=Tryz.zeroValue9
 t20:=Tryz.underlying20
 a20:=Tryz.isAgg20
 z20:=Tryz.sizeOf20
 v20:=Tryz.zeroValue20
 t37:=Tryz.underlying151
 a37:=Tryz.isAgg151
 z37:=Tryz.sizeOf151
 v37:=Tryz.zeroValue151
 t46:=Tryz.underlying127
 a46:=Tryz.isAgg127
 z46:=Tryz.sizeOf127
 v46:=Tryz.zeroValue127
 t51:=Tryz.underlying176
 a51:=Tryz.isAgg176
 z51:=Tryz.sizeOf176
 v51:=Tryz.zeroValue176
 t53:=Tryz.underlying178
 a53:=Tryz.isAgg178
 z53:=Tryz.sizeOf178
 v53:=Tryz.zeroValue178
 t171:=Tryz.underlying195
 a171:=Tryz.isAgg195
 z171:=Tryz.sizeOf195
 v171:=Tryz.zeroValue195
 t173:=Tryz.underlying197
 a173:=Tryz.isAgg197
 z173:=Tryz.sizeOf197
 v173:=Tryz.zeroValue197
 t212:=Tryz.underlying215
 a212:=Tryz.isAgg215
 z212:=Tryz.sizeOf215
 v212:=Tryz.zeroValue215
 t213:=Tryz.underlying216
 a213:=Tryz.isAgg216
 z213:=Tryz.sizeOf216
 t232:=Tryz.underlying233
 a232:=Tryz.isAgg233
 z232:=Tryz.sizeOf233
 v232:=Tryz.zeroValue233
 t233:=Tryz.underlying234
 a233:=Tryz.isAgg234
 z233:=Tryz.sizeOf234
 v233:=Tryz.zeroValue234
 g17:=by kernel_rfl
 g18:=by kernel_rfl
 g19:=by kernel_rfl
 i0:=by kernel_rfl
 i2:=by kernel_rfl
 i3:=by kernel_rfl
 i4:=by kernel_rfl
 i5:=by kernel_rfl
 i9:=by kernel_rfl
 i20:=by kernel_rfl
 i37:=by kernel_rfl
 i46:=by kernel_rfl
 i51:=by kernel_rfl
 i53:=by kernel_rfl
 i171:=by kernel_rfl
 i173:=by kernel_rfl
 i212:=by kernel_rfl
 i232:=by kernel_rfl
 i233:=by kernel_rfl
 m17:=by kernel_rfl
 m18:=by kernel_rfl
 m19:=by kernel_rfl }
open Go.RowKit Go.Sort Go.Lib in
theorem Tryz.strconv_FormatInt_10 (n:Int)(h0:-9223372036854775808≤n)(h1:n≤9223372036854775807)(w:World)(htab:Lib.TabIs Tryz.prog w "internal/strconv.uint64pow10" .u64 Lib.pow10Tab) :
 Calls Tryz.prog 62 #[.int .i64 n,.int .i64 10] w fun e w'=>e=.returned (.string ⟨(Lib.itoa n).toArray⟩)∧∃ k os,w'=grow (w.drewN k) os:=Any.strconv_FormatInt_10 Tryz.laysM173 n h0 h1 w htab
def Tryz.laysC174_ren:Go.Shelf.Ren:=⟨fun|174=>136|247=>158|245=>159|287=>173|279=>174|280=>175|281=>176|282=>177|321=>182|322=>183|316=>184|171=>186|205=>185|243=>188|246=>110|283=>144|284=>145|285=>146|286=>147|129=>122|317=>164|318=>165|319=>166|320=>167|337=>179|338=>180|n=>n,fun|9=>9|3=>3|2=>2|75=>163|85=>190|4=>4|167=>222|5=>5|53=>178|175=>223|46=>127|168=>225|37=>151|0=>0|210=>231|21=>21|127=>193|145=>237|143=>235|171=>195|173=>197|212=>215|51=>176|20=>20|213=>216|232=>233|233=>234|80=>166|n=>n,fun|15=>2|16=>3|17=>0|18=>4|19=>5|n=>n⟩
theorem Tryz.laysC174:Go.Proofs.LaysC.n174 Tryz.prog Tryz.laysC174_ren:={
 mixed:=by kernel_rfl
 f129:=Tryz.func122.trans (aB (by kernel_rfl))
 f171:=Tryz.func186.trans (aB (by kernel_rfl))
 f174:=Tryz.func136.trans (aB (by kernel_rfl))
 f205:=Tryz.func185.trans (aB (by kernel_rfl))
 f243:=Tryz.func188.trans (aB (by kernel_rfl))
 f245:=Tryz.func159.trans (aB (by kernel_rfl))
 f246:=Tryz.func110.trans (aB (by kernel_rfl))
 f247:=Tryz.func158.trans (aB (by kernel_rfl))
 f279:=Tryz.func174.trans (aB (by kernel_rfl))
 f280:=Tryz.func175.trans (aB (by kernel_rfl))
 f281:=Tryz.func176.trans (aB (by kernel_rfl))
 f282:=Tryz.func177.trans (aB (by kernel_rfl))
 f283:=Tryz.func144.trans (aB (by kernel_rfl))
 f284:=Tryz.func145.trans (aB (by kernel_rfl))
 f285:=Tryz.func146.trans (aB (by kernel_rfl))
 f286:=Tryz.func147.trans (aB (by kernel_rfl))
 f287:=Tryz.func173.trans (aB (by kernel_rfl))
 f316:=Tryz.func184.trans (aB (by kernel_rfl))
 f317:=Tryz.func164.trans (aB (by kernel_rfl))
 f318:=Tryz.func165.trans (aB (by kernel_rfl))
 f319:=Tryz.func166.trans (aB (by kernel_rfl))
 f320:=Tryz.func167.trans (aB (by kernel_rfl))
 f321:=Tryz.func182.trans (aB (by kernel_rfl))
 f322:=Tryz.func183.trans (aB (by kernel_rfl))
 f337:=Tryz.func179.trans (aB (by kernel_rfl))
 f338:=Tryz.func180.trans (aB (by kernel_rfl))
 t0:=Tryz.underlying0
 a0:=Tryz.isAgg0
 z0:=Tryz.sizeOf0
 v0:=Tryz.zeroValue0
 t2:=Tryz.underlying2
 a2:=Tryz.isAgg2
 z2:=Tryz.sizeOf2
 v2:=Tryz.zeroValue2
 t3:=Tryz.underlying3
 a3:=Tryz.isAgg3
 z3:=Tryz.sizeOf3
 v3:=Tryz.zeroValue3
 t4:=Tryz.underlying4
 a4:=Tryz.isAgg4
 z4:=Tryz.sizeOf4
 v4:=Tryz.zeroValue4
 t5:=Tryz.underlying5
 a5:=Tryz.isAgg5
 z5:=Tryz.sizeOf5
 v5:=Tryz.zeroValue5
 t9:=Tryz.underlying9
 a9:=Tryz.isAgg9
 z9:=Tryz.sizeOf9
 v9:=Tryz.zeroValue9
 t20:=Tryz.underlying20
 a20:=Tryz.isAgg20
 z20:=Tryz.sizeOf20
 v20:=Tryz.zeroValue20
 t21:=Tryz.underlying21
 a21:=Tryz.isAgg21
 z21:=Tryz.sizeOf21
 v21:=Tryz.zeroValue21
 t37:=Tryz.underlying151
 a37:=Tryz.isAgg151
 z37:=Tryz.sizeOf151
 v37:=Tryz.zeroValue151
 t46:=Tryz.underlying127
 a46:=Tryz.isAgg127
 z46:=Tryz.sizeOf127
 v46:=Tryz.zeroValue127
 t51:=Tryz.underlying176
 a51:=Tryz.isAgg176
 z51:=Tryz.sizeOf176
 v51:=Tryz.zeroValue176
 t53:=Tryz.underlying178
 a53:=Tryz.isAgg178
 z53:=Tryz.sizeOf178
 v53:=Tryz.zeroValue178
 t75:=Tryz.underlying163
 a75:=Tryz.isAgg163
 z75:=Tryz.sizeOf163
 v75:=Tryz.zeroValue163
 t85:=Tryz.underlying190
 a85:=Tryz.isAgg190
 z85:=Tryz.sizeOf190
 v85:=Tryz.zeroValue190
 t127:=Tryz.underlying193
 a127:=Tryz.isAgg193
 z127:=Tryz.sizeOf193
 v127:=Tryz.zeroValue193
 t143:=Tryz.underlying235
 a143:=Tryz.isAgg235
 z143:=Tryz.sizeOf235
 v143:=Tryz.zeroValue235
 t145:=Tryz.underlying237
 a145:=Tryz.isAgg237
 z145:=Tryz.sizeOf237
 v145:=Tryz.zeroValue237
 t167:=Tryz.underlying222
 a167:=Tryz.isAgg222
 z167:=Tryz.sizeOf222
 v167:=Tryz.zeroValue222
 t168:=Tryz.underlying225
 a168:=Tryz.isAgg225
 z168:=Tryz.sizeOf225
 v168:=Tryz.zeroValue225
 t171:=Tryz.underlying195
 a171:=Tryz.isAgg195
 z171:=Tryz.sizeOf195
 v171:=Tryz.zeroValue195
 t173:=Tryz.underlying197
 a173:=Tryz.isAgg197
 z173:=Tryz.sizeOf197
 v173:=Tryz.zeroValue197
 t175:=Tryz.underlying223
 a175:=Tryz.isAgg223
 z175:=Tryz.sizeOf223
 v175:=Tryz.zeroValue223
 t210:=Tryz.underlying231
 a210:=Tryz.isAgg231
 z210:=Tryz.sizeOf231
 v210:=Tryz.zeroValue231
 t212:=Tryz.underlying215
 a212:=Tryz.isAgg215
 z212:=Tryz.sizeOf215
 v212:=Tryz.zeroValue215
 t213:=Tryz.underlying216
 a213:=Tryz.isAgg216
 z213:=Tryz.sizeOf216
 t232:=Tryz.underlying233
 a232:=Tryz.isAgg233
 z232:=Tryz.sizeOf233
 v232:=Tryz.zeroValue233
 t233:=Tryz.underlying234
 a233:=Tryz.isAgg234
 z233:=Tryz.sizeOf234
 v233:=Tryz.zeroValue234
 g15:=by kernel_rfl
 g16:=by kernel_rfl
 g17:=by kernel_rfl
 g18:=by kernel_rfl
 g19:=by kernel_rfl
 t80:=Tryz.underlying166
 a80:=Tryz.isAgg166
 z80:=Tryz.sizeOf166
 v80:=Tryz.zeroValue166
 i0:=by kernel_rfl
 i2:=by kernel_rfl
 i3:=by kernel_rfl
 i4:=by kernel_rfl
 i5:=by kernel_rfl
 i9:=by kernel_rfl
 i20:=by kernel_rfl
 i21:=by kernel_rfl
 i37:=by kernel_rfl
 i46:=by kernel_rfl
 i51:=by kernel_rfl
 i53:=by kernel_rfl
 i75:=by kernel_rfl
 i80:=by kernel_rfl
 i85:=by kernel_rfl
 i127:=by kernel_rfl
 i143:=by kernel_rfl
 i145:=by kernel_rfl
 i167:=by kernel_rfl
 i168:=by kernel_rfl
 i171:=by kernel_rfl
 i173:=by kernel_rfl
 i175:=by kernel_rfl
 i210:=by kernel_rfl
 i212:=by kernel_rfl
 i232:=by kernel_rfl
 i233:=by kernel_rfl
 m15:=by kernel_rfl
 m16:=by kernel_rfl
 m17:=by kernel_rfl
 m18:=by kernel_rfl
 m19:=by kernel_rfl
 c0:=by kernel_rfl
 c2:=by kernel_rfl
 c3:=by kernel_rfl
 c4:=by kernel_rfl
 c5:=by kernel_rfl
 c9:=by kernel_rfl
 c20:=by kernel_rfl
 c21:=by kernel_rfl
 c37:=by kernel_rfl
 c46:=by kernel_rfl
 c51:=by kernel_rfl
 c53:=by kernel_rfl
 c75:=by kernel_rfl
 c80:=by kernel_rfl
 c85:=by kernel_rfl
 c127:=by kernel_rfl
 c143:=by kernel_rfl
 c145:=by kernel_rfl
 c167:=by kernel_rfl
 c168:=by kernel_rfl
 c171:=by kernel_rfl
 c173:=by kernel_rfl
 c175:=by kernel_rfl
 c210:=by kernel_rfl
 c212:=by kernel_rfl
 c213:=by kernel_rfl
 c232:=by kernel_rfl
 c233:=by kernel_rfl }
open Go.RowKit in
theorem Tryz.strconv_ParseInt_10_at64_ok (s:ByteArray)(hmax:s.size≤9223372036854775806)(v:Int)(h:Lib.parseIntB 64 s.data.toList=.ok v)(w:World) :
 Calls Tryz.prog 136 #[.string s,.int .i64 10,.int .i64 64] w fun e w'=>e=.returned (.tuple #[.int .i64 v,.nilIface])∧(w'=w∨∃ t,w'=Lib.bytesWorld w 5 t):=Any.strconv_ParseInt_10_at64_ok Tryz.laysC174 s hmax v h w
open Go.RowKit in
theorem Tryz.strconv_ParseInt_10_at64_syntax (s:ByteArray)(hlim:s.size≤281474976710656)(h:Lib.parseIntB 64 s.data.toList=.«syntax»)(ev:Value)(w:World)(hv:w.cell? ⟨2,0,none⟩=some ev)(hev:ev=.nilIface∨∃ te pe,ev=.iface te pe) :
 Calls Tryz.prog 136 #[.string s,.int .i64 10,.int .i64 64] w fun e w'=>∃ N,e=.returned (.tuple #[.int .i64 (0),.iface 225 (.pointer (some ⟨N,0,none⟩))])∧w.heap.size≤N∧w'.heap[N]?=some (.cells #[.string ⟨#[80,97,114,115,101,73,110,116]⟩,.string s,ev] 231 (0,0))∧Below w.heap.size w w':=Any.strconv_ParseInt_10_at64_syntax Tryz.laysC174 s hlim h ev w hv hev
open Go.RowKit in
theorem Tryz.strconv_ParseInt_10_at64_range (s:ByteArray)(hlim:s.size≤281474976710656)(h:Lib.parseIntB 64 s.data.toList=.range)(ev:Value)(w:World)(hv:w.cell? ⟨3,0,none⟩=some ev)(hev:ev=.nilIface∨∃ te pe,ev=.iface te pe) :
 Calls Tryz.prog 136 #[.string s,.int .i64 10,.int .i64 64] w fun e w'=>∃ N,e=.returned (.tuple #[.int .i64 (Lib.intSat 64 s.data.toList),.iface 225 (.pointer (some ⟨N,0,none⟩))])∧w.heap.size≤N∧w'.heap[N]?=some (.cells #[.string ⟨#[80,97,114,115,101,73,110,116]⟩,.string s,ev] 231 (0,0))∧Below w.heap.size w w':=Any.strconv_ParseInt_10_at64_range Tryz.laysC174 s hlim h ev w hv hev
end Go.Proofs
namespace Go.Proofs.YtjhkihkiebnpaaaGreatDoor
open Go.RowKit
namespace dP
def listNat:List Nat→Nat→Nat
 | [],_=>0
 | n::_,0=>n
 | _::l,n+1=>listNat l n
def Fp (acc:List Nat):List Edge→Nat
 | []=>0
 | e::l=>match Region.binds .any e with
   | true=>(2 ^ e.on ||| listNat acc e.on) ||| Fp acc l
   | false=>Fp acc l
def Bj:List Oper→List Nat→List Nat
 | [],acc=>acc
 | o::l,acc=>Bj l (acc++[Fp acc o.after.toList])
def TR (k:Nat):List Edge→Bool
 | []=>false
 | e::l=>match Region.binds .any e&&Nat.beq e.on k with
   | true=>true
   | false=>TR k l
def zT (i:Nat):List Edge→Bool
 | []=>true
 | e::l=>match Region.binds .any e,Nat.blt e.on i with
   | true,false=>false
   | _,_=>zT i l
def MP (o:Oper)(i:Nat)(looks:List Tmp):List Oper→Nat→Bool
 | [],_=>true
 | p::l,k=>match Nat.beq k i || match p.dst with
     | none=>true
     | some d=>(match o.dst with
        | some e=>!(Nat.beq d e)
        | none=>true)&&(!(looks.contains d) || TR k o.after.toList || TR i p.after.toList) with
   | true=>MP o i looks l (Nat.succ k)
   | false=>false
def QL (ops:Array Oper):List Oper→Nat→Bool
 | [],_=>true
 | o::l,i=>match zT i o.after.toList&&MP o i (o.looksAt ops) ops.toList 0&&(match o.op with
     | .select ..=>false
     | _=>true) with
   | true=>QL ops l (Nat.succ i)
   | false=>false
def PT (ops:Array Oper):Bool:=QL ops ops.toList 0
theorem Cc:∀ (l:List Nat)(i m:Nat),l[i]?=some m→listNat l i=m
 | [],i,m,h=>by simp at h
 | x::l,0,m,h=>by simpa [listNat] using h
 | x::l,i+1,m,h=>by rw[listNat];exact Cc l i m (by simpa using h)
theorem Bl (acc:List Nat):∀ (l:List Edge)(j:Nat),(Fp acc l).testBit j=true→∃ e∈l,Region.binds .any e=true∧(j=e.on∨(listNat acc e.on).testBit j=true)
 | [],j,h=>by simp[Fp] at h
 | e::l,j,h=>by
   rw[Fp] at h
   cases hb:Region.binds .any e with
   | true =>
     rw[hb] at h
     simp only[Nat.testBit_or,Bool.or_eq_true] at h
     rcases h with (h|h)|h
     ·rw[Nat.testBit_two_pow] at h
      exact⟨e,bH,hb,.inl (by have:=of_decide_eq_true h;omega)⟩
     ·exact⟨e,bH,hb,.inr h⟩
     ·obtain⟨e',he,h'⟩:=Bl acc l j h
      exact⟨e',bG _ he,h'⟩
   | false =>
     rw[hb] at h
     obtain⟨e',he,h'⟩:=Bl acc l j h
     exact⟨e',bG _ he,h'⟩
theorem IB:∀ (l:List Oper)(acc:List Nat),∃ new,Bj l acc=acc++new∧new.length=l.length∧∀ (k:Nat) o,l[k]?=some o→new[k]?=some (Fp (acc++new.take k) o.after.toList)
 | [],acc=>⟨[],by simp[Bj],rfl,fun k o h=>by simp at h⟩
 | o::l,acc=>by
   obtain⟨new,h1,h2,h3⟩:=IB l (acc++[Fp acc o.after.toList])
   refine⟨Fp acc o.after.toList::new,by rw[Bj,h1];simp,by simp[h2],fun k p hp=>?_⟩
   cases k with
   | zero=>simp at hp;subst hp;simp
   | succ k =>
     have:=h3 k p (by simpa using hp)
     simpa using this
theorem Fq (ops:Array Oper) {k:Nat} {o:Oper} (h:ops[k]?=some o) :
 (Bj ops.toList [])[k]?=some (Fp ((Bj ops.toList []).take k) o.after.toList):=by
 obtain⟨new,h1,h2,h3⟩:=IB ops.toList []
 have:=h3 k o (by simpa using h)
 rw[h1]
 simpa using this
theorem Fv {k:Nat}:∀ {l:List Edge},TR k l=true→∃ e∈l,Region.binds .any e=true∧e.on=k
 | [],h=>by simp[TR] at h
 | x::l,h=>by
   rw[TR] at h
   cases hc:Region.binds .any x&&Nat.beq x.on k with
   | true =>
     rw[Bool.and_eq_true,Nat.beq_eq] at hc
     exact⟨x,bH,hc.1,hc.2⟩
   | false =>
     rw[hc] at h
     obtain⟨e,he,h'⟩:=Fv h
     exact⟨e,bG _ he,h'⟩
theorem wC {i:Nat}:∀ {l:List Edge},zT i l=true→∀ e∈l,Region.binds .any e=true→e.on<i
 | [],_,e,h,_=>by simp at h
 | x::l,hh,e,h,hb=>by
   rw[zT] at hh
   rcases bZ.1 h with rfl|h
   ·cases hx:Nat.blt e.on i with
    | false=>rw[hb,hx] at hh;simp at hh
    | true=>simpa [Nat.blt_eq] using hx
   ·split at hh
    ·simp at hh
    ·exact wC hh e h hb
theorem Fz {o:Oper} {i:Nat} {looks:List Tmp}:∀ {l:List Oper} {k:Nat},MP o i looks l k=true→∀ (j:Nat) p d,l[j]?=some p→k+j≠i→p.dst=some d →
 o.dst≠some d∧(d∈looks→(∃ e∈o.after,Region.binds .any e=true∧e.on=k+j)∨(∃ e∈p.after,Region.binds .any e=true∧e.on=i))
 | [],k,_,j,p,d,h,_,_=>by simp at h
 | q::l,k,hh,j,p,d,h,hne,hd=>by
   rw[MP] at hh
   split at hh
   ·rename_i hc
    cases j with
    | zero =>
      simp at h
      subst h
      rw[Bool.or_eq_true,Nat.beq_eq] at hc
      rcases hc with hc|hc
      ·omega
      ·rw[hd] at hc
       simp only[Bool.and_eq_true,Bool.or_eq_true] at hc
       obtain⟨c1,c2⟩:=hc
       refine⟨?_,fun hl=>?_⟩
       ·intro e
        rw[e] at c1
        simp at c1
       ·rcases c2 with (c2|c2)|c2
        ·simp at c2;exact absurd hl c2
        ·obtain⟨e,he,h'⟩:=Fv c2;exact .inl ⟨e,by simpa using he,h'⟩
        ·obtain⟨e,he,h'⟩:=Fv c2;exact .inr ⟨e,by simpa using he,h'⟩
    | succ j =>
      have:=Fz hh j p d (by simpa using h) (by omega) hd
      rw[show k+(j+1)=k.succ+j from by omega]
      exact this
   ·simp at hh
theorem uj {ops:Array Oper}:∀ {l:List Oper} {k:Nat},QL ops l k=true→∀ (j:Nat) o,l[j]?=some o →
 zT (k+j) o.after.toList=true∧MP o (k+j) (o.looksAt ops) ops.toList 0=true∧∀ cs b,o.op≠.select cs b
 | [],k,_,j,o,h=>by simp at h
 | q::l,k,hh,j,o,h=>by
   rw[QL] at hh
   split at hh
   ·rename_i hc
    cases j with
    | zero =>
      simp at h
      subst h
      simp only[Bool.and_eq_true] at hc
      refine⟨hc.1.1,hc.1.2,fun cs b e=>?_⟩
      rw[e] at hc
      simp at hc
    | succ j =>
      have:=uj hh j o (by simpa using h)
      rw[show k+(j+1)=k.succ+j from by omega]
      exact this
   ·simp at hh
theorem PU {ops:Array Oper} (hok:PT ops=true) {S:Nat→Prop} (hS:∀ j o,S j→ops[j]?=some o→∀ e∈o.after,Region.binds .any e=true→S e.on) :
 ∀ (i:Nat)(o:Oper)(m:Nat),ops[i]?=some o→(Bj ops.toList [])[i]?=some m→(∀ e∈o.after,Region.binds .any e=true→S e.on)→∀ j,m.testBit j=true→S j∧j<i:=by
 intro i
 induction i using Nat.strongRecOn with
 | _ i ih =>
   intro o m ho hm hpre j hj
   rw[Fq ops ho] at hm
   obtain rfl:=aY hm
   obtain⟨e,he,hb,h⟩:=Bl _ _ _ hj
   have hlt:e.on<i:=by
    have:=(uj hok i o (by simpa using ho)).1
    rw[Nat.zero_add] at this
    exact wC this e he hb
   have hSe:=hpre e (by simpa using he) hb
   rcases h with rfl|h
   ·exact⟨hSe,hlt⟩
   ·have hi:i<ops.size:=(aU.1 ho).1
    have hoe:ops[e.on]?=some ops[e.on]:=Array.getElem?_eq_getElem (by omega)
    have hme:=Fq ops hoe
    have h2:((Bj ops.toList []).take i)[e.on]?=some (Fp ((Bj ops.toList []).take e.on) ops[e.on].after.toList):=by
     rw[List.getElem?_take,if_pos hlt];exact hme
    rw[Cc _ _ _ h2] at h
    obtain⟨h3,h4⟩:=ih e.on hlt _ _ hoe hme (hS e.on _ hSe hoe) j h
    exact⟨h3,by omega⟩
theorem Zt {listed:Array Bool} {j:Nat} (h:j<listed.size)(b b':Bool):listed.getD j b=listed.getD j b':=by
 simp[bQ,h]
def Xn (listed:Array Bool):Nat:=(listed.toList.filter fun b=>!b).length
theorem FB:∀ (l:List Bool)(i:Nat),l[i]?=some false→((l.set i true).filter fun b=>!b).length+1=(l.filter fun b=>!b).length
 | [],i,h=>by simp at h
 | b::l,0,h=>by simp at h;subst h;simp
 | b::l,i+1,h=>by
   have:=FB l i (by simpa using h)
   cases b <;> simp <;> omega
theorem Zu {listed:Array Bool} {i:Nat} (h:listed.getD i true=false):Xn (listed.setIfInBounds i true)+1=Xn listed:=by
 have hi:listed.toList[i]?=some false:=by
  rw[bQ] at h
  rw[Array.getElem?_toList]
  cases hg:listed[i]? with
  | none=>rw[hg] at h;simp at h
  | some b=>rw[hg] at h;simp at h;rw[h]
 have:=FB _ _ hi
 unfold Xn
 simpa using this
theorem WU {listed:Array Bool} (h:Xn listed=0) {j:Nat} (hj:j<listed.size):listed.getD j false=true:=by
 unfold Xn at h
 have h0:=bF h
 rw[List.filter_eq_nil_iff] at h0
 have:=h0 listed[j] (by simp)
 rw[bQ,Array.getElem?_eq_getElem hj]
 simpa using this
section
variable {P:Program} {ops:Array Oper} {Q:Exit→Act→World→Prop}
structure Like (ds:List (Option Tmp))(a0 a:Act):Prop where
 size:a.tmps.size=a0.tmps.size
 defers:a.defers=a0.defers
 keep:∀ t,some t ∉ ds→a.tmps.getD t undef=a0.tmps.getD t undef
theorem Like.old {ds:List (Option Tmp)} {a0 a:Act} (h:Like ds a0 a) {t:Nat} {v:Value} (hn:(ds.contains (some t))=false)(hv:a0.tmps.getD t undef=v):a.tmps.getD t undef=v:=by
 rw[h.keep t (fun hm=>by rw[List.contains_eq_mem] at hn;simp[hm] at hn)]
 exact hv
def Knows (ds:List (Option Tmp))(R:Nat→Value→World→Prop)(a:Act)(w:World)(j:Nat):Prop :=
 ∃ v,(∀ d,ds[j]?=some (some d)→a.tmps.getD d undef=v)∧R j v w
theorem Knows.slot {ds:List (Option Tmp)} {R:Nat→Value→World→Prop} {a:Act} {w:World} {j d:Nat} (h:Knows ds R a w j)(hd:ds[j]?=some (some d)):∃ v,a.tmps.getD d undef=v∧R j v w:=by
 obtain⟨v,h1,h2⟩:=h
 exact⟨v,h1 d hd,h2⟩
theorem Knows.is {ds:List (Option Tmp)} {R:Nat→Value→World→Prop} {a:Act} {w:World} {j d:Nat} {u:Value} (h:Knows ds R a w j)(hd:ds[j]?=some (some d))(hR:∀ v,R j v w→v=u):a.tmps.getD d undef=u:=by
 obtain⟨v,h1,h2⟩:=h
 exact (h1 d hd).trans (hR v h2)
theorem MQ {o:Oper} {a:Act} (hg:o.guard=none):Region.wanted o (yielded ops a.tmps)=true:=by
 unfold Region.wanted
 rw[hg]
def gY (P:Program)(ops:Array Oper)(Q:Exit→Act→World→Prop)(ds:List (Option Tmp))(R:Nat→Value→World→Prop)(a0:Act)(w0:World)(i:Nat)(o:Oper)(m:Nat):Prop :=
 ∀ (a:Act)(w:World),Below w0.heap.size w0 w→Like ds a0 a→(∀ j,m.testBit j=true→Knows ds R a w j) →
   ∀ K:Act→World→Prop,(∀ v w',Below w.heap.size w w'→R i v w'→K (a.put o.dst v) w') →
     if Region.wanted o (yielded ops a.tmps)=true then o.wp P a w K Q else K (a.put o.dst undef) w
theorem gY.wanted {ds:List (Option Tmp)} {R:Nat→Value→World→Prop} {a0:Act} {w0:World} {i m:Nat} {o:Oper} (hw:∀ (a:Act)(w:World),Like ds a0 a→(∀ j,m.testBit j=true→Knows ds R a w j)→Region.wanted o (yielded ops a.tmps)=true)
 (h:∀ (a:Act)(w:World),Below w0.heap.size w0 w→Like ds a0 a→(∀ j,m.testBit j=true→Knows ds R a w j) →
   ∀ K:Act→World→Prop,(∀ v w',Below w.heap.size w w'→R i v w'→K (a.put o.dst v) w')→o.wp P a w K Q):gY P ops Q ds R a0 w0 i o m:=by
 intro a w h1 h2 h3 K hK
 rw[if_pos (hw a w h2 h3)]
 exact h a w h1 h2 h3 K hK
def Each (F:Nat→Oper→Nat→Prop):List Oper→List Nat→Nat→Prop
 | o::l,m::ms,i=>F i o m∧Each F l ms (i+1)
 | _,_,_=>True
theorem Each.cons {F:Nat→Oper→Nat→Prop} {o:Oper} {l:List Oper} {m:Nat} {ms:List Nat} {i:Nat} (h:F i o m)(t:Each F l ms (i+1)):Each F (o::l) (m::ms) i:=⟨h,t⟩
theorem Each.get {F:Nat→Oper→Nat→Prop}:∀ {l:List Oper} {ms:List Nat} {i:Nat},Each F l ms i→∀ (k:Nat) o m,l[k]?=some o→ms[k]?=some m→F (i+k) o m
 | [],_,_,_,k,o,m,h,_=>by simp at h
 | _::_,[],_,_,k,o,m,_,h=>by simp at h
 | p::l,q::ms,i,hE,0,o,m,h1,h2=>by
   simp at h1 h2
   subst h1 h2
   exact hE.1
 | p::l,q::ms,i,hE,k+1,o,m,h1,h2=>by
   have:=Each.get hE.2 k o m (by simpa using h1) (by simpa using h2)
   rwa [show i+1+k=i+(k+1) from by omega] at this
theorem PV {ds:List (Option Tmp)} (hds:ops.toList.map (·.dst)=ds) {i:Nat} {o:Oper} (ho:ops[i]?=some o):ds[i]?=some o.dst:=by
 rw[←hds,bP]
 have:ops.toList[i]?=some o:=by simpa using ho
 rw[this]
 rfl
theorem gY.free {ds:List (Option Tmp)} {R:Nat→Value→World→Prop} {a0:Act} {w0:World} {i m:Nat} {o:Oper} (hg:o.guard=none)
 (h:∀ (a:Act)(w:World),Below w0.heap.size w0 w→Like ds a0 a→(∀ j,m.testBit j=true→Knows ds R a w j) →
   ∀ K:Act→World→Prop,(∀ v w',Below w.heap.size w w'→R i v w'→K (a.put o.dst v) w')→o.wp P a w K Q):gY P ops Q ds R a0 w0 i o m :=
 .wanted (fun _ _ _ _=>MQ hg) h
end
end dP
namespace dP
def Dt:Nat→Nat→Bool
 | 0,_=>true
 | L+1,m=>m.testBit L&&Dt L m
def zU (L:Nat):List Nat→Nat→Bool
 | [],_=>true
 | m::l,k=>(Nat.blt k L || Dt L m)&&zU L l (Nat.succ k)
def FC (L:Nat):List Bool→Nat→Bool
 | [],_=>true
 | b::l,k=>(b==Nat.blt k L)&&FC L l (Nat.succ k)
theorem zV:∀ {L m:Nat},Dt L m=true→∀ j,j<L→m.testBit j=true
 | 0,_,_,j,h=>by omega
 | L+1,m,h,j,hj=>by
   rw[Dt,Bool.and_eq_true] at h
   rcases Nat.lt_or_ge j L with h1|h1
   ·exact zV h.2 j h1
   ·obtain rfl:j=L:=by omega
    exact h.1
theorem zW {L:Nat}:∀ {l:List Nat} {k:Nat},zU L l k=true→∀ (i:Nat) m,l[i]?=some m→L≤k+i→∀ j,j<L→m.testBit j=true
 | [],k,_,i,m,h,_=>by simp at h
 | x::l,k,hh,i,m,h,hL=>by
   rw[zU,Bool.and_eq_true] at hh
   cases i with
   | zero =>
     simp at h
     subst h
     have h1:=hh.1
     rw[Bool.or_eq_true] at h1
     rcases h1 with h1|h1
     ·rw[Nat.blt_eq] at h1;omega
     ·exact zV h1
   | succ i=>exact zW hh.2 i m (by simpa using h) (by rw[show k.succ+i=k+(i+1) from by omega];exact hL)
theorem Ce {L:Nat}:∀ {l:List Bool} {k:Nat},FC L l k=true→∀ (i:Nat) b,l[i]?=some b→b=decide (k+i<L)
 | [],k,_,i,b,h=>by simp at h
 | x::l,k,hh,i,b,h=>by
   rw[FC,Bool.and_eq_true] at hh
   cases i with
   | zero =>
     simp at h
     subst h
     have h1:=eq_of_beq hh.1
     rw[h1]
     cases hb:Nat.blt k L with
     | true=>rw[Nat.blt_eq] at hb;simp;omega
     | false =>
       have:¬k<L:=fun h=>by rw[←Nat.blt_eq] at h;rw[h] at hb;cases hb
       simp;omega
   | succ i =>
     have:=Ce hh.2 i b (by simpa using h)
     rw[this]
     congr 1
     apply propext
     omega
section
variable {P:Program} {ops:Array Oper} {Q:Exit→Act→World→Prop}
def JG (u:Nat→Value):List (Option Tmp)→Array Value→Array Value
 | [],t=>t
 | none::l,t=>JG u l t
 | some d::l,t=>JG u l (t.setIfInBounds d (u d))
theorem FD (s:Array Value):∀ (l:List (Option Tmp))(t:Array Value),s.size=t.size→(∀ i,some i ∉ l→s.getD i undef=t.getD i undef)→JG (fun i=>s.getD i undef) l t=s
 | [],t,hs,h=>by
   refine Array.ext hs.symm fun i h1 h2=>?_
   have:=h i (by simp)
   unfold JG at h1 ⊢
   simp only[bQ,Array.getElem?_eq_getElem h1,Array.getElem?_eq_getElem h2,Option.getD_some] at this
   exact this.symm
 | none::l,t,hs,h=>by
   unfold JG
   exact FD s l t hs fun i hi=>h i (by simpa using hi)
 | some d::l,t,hs,h=>by
   unfold JG
   refine FD s l _ (by simpa using hs) fun i hi=>?_
   by_cases hid:d=i
   ·subst hid
    by_cases hlt:d<t.size
    ·simp[bQ,hlt]
    ·have h1:s.size≤d:=by rw[hs];exact Nat.le_of_not_lt hlt
     have h2:t.size≤d:=Nat.le_of_not_lt hlt
     simp[bQ,Array.getElem?_eq_none h1,h2]
   ·rw[h i (by simp;exact⟨fun e=>hid e.symm,hi⟩)]
    simp[bQ,Array.getElem?_setIfInBounds_ne hid]
end
end dP
namespace dP
inductive Fact
 | is (v:Value)
 | such (p:Value→World→Prop)(h:∀ v w w',Below w.heap.size w w'→p v w→p v w')
def Fact.holds:Fact→Value→World→Prop
 | .is x,v,_=>v=x
 | .such p _,v,w=>p v w
def FH (l:List Fact)(i:Nat)(v:Value)(w:World):Prop:=(l.getD i (.is undef)).holds v w
theorem Cf (l:List Fact):∀ i v w w',Below w.heap.size w w'→FH l i v w→FH l i v w':=by
 intro i v w w' hb h
 unfold FH at h ⊢
 generalize l.getD i (.is undef)=f at h ⊢
 cases f with
 | is x=>exact h
 | such p hp=>exact hp v w w' hb h
def Fact.blk (base:Nat)(e:TypeId)(m:Nat)(cs:Array Value):Fact:=.such (fun v w=>∃ g,v=.slice (some ⟨g,0,none⟩) m m∧base≤g∧w.heap[g]?=some (.cells cs e (0,0))) (fun _ _ _ hb h=>by
 obtain⟨g,h1,h2,h3⟩:=h
 exact⟨g,h1,h2,(hb.block g (aU.1 h3).1).trans h3⟩)
section
variable {P:Program} {ops:Array Oper} {Q:Exit→Act→World→Prop}
theorem TS {ds dl:List (Option Tmp)} {a0 a:Act} {o:Oper} {i L:Nat} (hds:ops.toList.map (·.dst)=ds)(hdl:ds.take L=dl)(ho:ops[i]?=some o)(hi:i<L)(h:Like dl a0 a)(v:Value):Like dl a0 (a.put o.dst v):=by
 refine⟨?_,?_,fun t ht=>?_⟩
 ·rw[←h.size];cases o.dst <;> simp[Act.put]
 ·rw[←h.defers];cases o.dst <;> rfl
 ·rw[←h.keep t ht]
  cases hd:o.dst with
  | none=>rfl
  | some d =>
    have hne:d≠t:=fun e=>ht (by
     have h1:=PV hds ho
     have h2:dl[i]?=some o.dst:=by rw[←hdl,List.getElem?_take_of_lt hi,h1]
     rw[←e,←hd]
     exact aN h2)
    simp[Act.put,bQ,Array.getElem?_setIfInBounds_ne hne]
theorem PW {ds dl:List (Option Tmp)} {R:Nat→Value→World→Prop} {a0:Act} {w0:World} {L F:Nat} {LL:Array Bool} (hok:PT ops=true)(hds:ops.toList.map (·.dst)=ds)(hsz:∀ d,some d∈ds→d<a0.tmps.size)
 (hdl:ds.take L=dl)(hL:L<ops.size)(hlast:zU L (Bj ops.toList []) 0=true)(hLL:LL.size=ops.size)(WV:FC L LL.toList 0=true)(hF:Xn LL=F)
 (hR:∀ i v w w',Below w.heap.size w w'→R i v w→R i v w')
 (each:Each (fun i o m=>i<L→gY P ops Q dl R a0 w0 i o m) ops.toList (Bj ops.toList []) 0)
 (fin:∀ a w,Below w0.heap.size w0 w→Like dl a0 a→(∀ j,j<L→Knows dl R a w j)→wpAny P .any ops Q F LL a w) :
 ∀ (fuel:Nat)(listed:Array Bool)(a:Act)(w:World),listed.size=ops.size →
   (∀ (j:Nat) o,listed.getD j false=true→ops[j]?=some o→∀ e∈o.after,Region.binds .any e=true→listed.getD e.on false=true) →
   (∀ j,L≤j→listed.getD j false=false) →
   Xn listed=fuel→Below w0.heap.size w0 w→Like dl a0 a→(∀ j,listed.getD j false=true→Knows dl R a w j)→wpAny P .any ops Q fuel listed a w:=by
 have done:∀ (listed:Array Bool)(fuel:Nat)(a:Act)(w:World),listed.size=ops.size→Xn listed=fuel→(∀ j,L≤j→listed.getD j false=false)→(∀ j,j<L→listed.getD j false=true)→Below w0.heap.size w0 w→Like dl a0 a→(∀ j,listed.getD j false=true→Knows dl R a w j)→wpAny P .any ops Q fuel listed a w:=by
  intro listed fuel a w hs hu hge hall h1 h2 h3
  have e:listed=LL:=by
   refine Array.ext (by omega) fun i hi1 hi2=>?_
   have hm:=Ce WV i LL[i] (by simp)
   rw[Nat.zero_add] at hm
   rw[hm]
   have hd:listed.getD i false=listed[i]:=by rw[bQ,Array.getElem?_eq_getElem hi1];rfl
   rw[←hd]
   by_cases hi:i<L
   ·rw[hall i hi,decide_eq_true hi]
   ·rw[hge i (by omega),decide_eq_false hi]
  subst e
  rw[←hu,hF]
  exact fin a w h1 h2 fun j hj=>h3 j (hall j hj)
 intro fuel
 induction fuel with
 | zero =>
   intro listed a w hsz' hcl hge hu hb hl hk
   have:=WU hu (j:=L) (by omega)
   rw[hge L (aF _)] at this
   cases this
 | succ fuel ih =>
   intro listed a w hsz' hcl hge hu hb hl hk
   by_cases hall:∀ j,j<L→listed.getD j false=true
   ·exact done listed _ a w hsz' hu hge hall hb hl hk
   refine⟨fun hr=>?_,fun i hi=>?_⟩
   ·exfalso
    refine hall fun j=>?_
    induction j using Nat.strongRecOn with
    | _ j ihj =>
      intro hj
      cases hx:listed.getD j false with
      | true=>rfl
      | false =>
        exfalso
        have hjs:j<ops.size:=by omega
        have hm:j∈Region.ready .any ops listed:=mem_ready.2 ⟨by rw[Zt (by omega) true false];exact hx,ops[j],Array.getElem?_eq_getElem hjs,fun e he hbd=>by
         have hlt:e.on<j:=by
          have:=(uj hok j ops[j] (by simp)).1
          rw[Nat.zero_add] at this
          exact wC this e (by simpa using he) hbd
         exact ihj e.on hlt (by omega)⟩
        rw[hr] at hm
        cases hm
   ·obtain⟨hun,o,ho,WW⟩:=mem_ready.1 hi
    have hlt:i<ops.size:=(aU.1 ho).1
    obtain⟨m,hm⟩:∃ m,(Bj ops.toList [])[i]?=some m:=⟨_,Fq ops ho⟩
    have hcl':=PU hok (S:=fun j=>listed.getD j false=true) hcl i o m ho hm WW
    have hiL:i<L:=by
     rcases Nat.lt_or_ge i L with h|h
     ·exact h
     ·exfalso
      refine hall fun j hj=>(hcl' j (zW hlast i m hm (by omega) j hj)).1
    have hF':=each.get i o m (by simpa using ho) hm
    rw[Nat.zero_add] at hF'
    have hpre:∀ j,m.testBit j=true→Knows dl R a w j:=fun j hj=>hk j (hcl' j hj).1
    have hset:∀ j,(listed.setIfInBounds i true).getD j false=true↔listed.getD j false=true∨j=i:=by
     intro j
     by_cases e:i=j
     ·subst e
      simp[bQ,show i<listed.size from by omega]
     ·rw[show (listed.setIfInBounds i true).getD j false=listed.getD j false from by simp[bQ,Array.getElem?_setIfInBounds_ne e]]
      exact⟨.inl,fun h=>h.resolve_right fun e'=>e e'.symm⟩
    have next:∀ v w',Below w.heap.size w w'→R i v w'→wpAny P .any ops Q fuel (listed.setIfInBounds i true) (a.put o.dst v) w':=by
     intro v w' hw' hv
     refine ih _ _ _ (by simpa using hsz') (fun j p hj hp e he hbd=>?_) (fun j hj=>?_) ?_ (hb.trans (hw'.mono hb.size)) (TS hds hdl ho hiL hl v) (fun j hj=>?_)
     ·rcases (hset j).1 hj with hj|rfl
      ·exact (hset _).2 (.inl (hcl j p hj hp e he hbd))
      ·rw[ho] at hp
       obtain rfl:=aY hp
       exact (hset _).2 (.inl (WW e he hbd))
     ·cases hx:(listed.setIfInBounds i true).getD j false with
      | false=>rfl
      | true =>
        rcases (hset j).1 hx with h|h
        ·rw[hge j hj] at h;cases h
        ·omega
     ·have:=Zu hun
      omega
     ·by_cases hji:j=i
      ·subst hji
       refine⟨v,fun d hd=>?_,hv⟩
       rw[←hdl,List.getElem?_take_of_lt hiL,PV hds ho] at hd
       obtain hd:=aY hd
       have ajc:d<a.tmps.size:=by
        rw[hl.size]
        exact hsz d (by
         rw[←hds,←hd]
         exact List.mem_map.2 ⟨o,by have:=Array.mem_of_getElem? ho;simpa using this,rfl⟩)
       rw[hd]
       simp[Act.put,bQ,ajc]
      ·obtain⟨u,hu1,hu2⟩:=hk j (((hset j).1 hj).resolve_right hji)
       refine⟨u,fun d hd=>?_,hR _ _ _ _ hw' hu2⟩
       rw[←hu1 d hd]
       cases hod:o.dst with
       | none=>rfl
       | some e =>
         have hne:e≠d:=by
          rintro rfl
          have hjL:j<L:=by
           have:=(aV.1 hd).1
           rw[←hdl,List.length_take] at this
           omega
          have hjlt:j<ops.size:=by omega
          rw[←hdl,List.getElem?_take_of_lt hjL] at hd
          have hoj:ops[j]?=some ops[j]:=Array.getElem?_eq_getElem hjlt
          have hdj:=PV hds hoj
          rw[hd] at hdj
          have hdj:=aY hdj
          have hsp:=(uj hok i o (by simpa using ho)).2.1
          exact (Fz hsp j ops[j] e (by simp) (by omega) hdj.symm).1 hod
         simp[Act.put,bQ,Array.getElem?_setIfInBounds_ne hne]
    have hgo:=hF' hiL a w hb hl hpre _ next
    unfold wpOp
    simp only[ho]
    split
    ·rename_i hw
     rw[if_pos hw] at hgo
     exact .inl hgo
    ·rename_i hw
     rw[if_neg hw] at hgo
     exact hgo
theorem xB {ds dl:List (Option Tmp)} {MS:List Nat} {R:Nat→Value→World→Prop} {a:Act} {w:World} {id L F:Nat} {LL:Array Bool} (hm:P.follows .mixedOrders=true)(hok:PT ops=true)(hds:ops.toList.map (·.dst)=ds)(hMS:Bj ops.toList []=MS)
 (hsz:(ds.all fun|some d=>Nat.blt d a.tmps.size|none=>true)=true)
 (hdl:ds.take L=dl)(hL:Nat.blt L ops.size=true)(hlast:zU L MS 0=true)(hLL:LL.size=ops.size)(WV:FC L LL.toList 0=true)(hF:Xn LL=F)
 (hR:∀ i v w w',Below w.heap.size w w'→R i v w→R i v w')(G:Act→Prop)(hG:G a)
 (each:ops.toList.map (·.dst)=ds→∀ (Q':Exit→Act→World→Prop)(a0:Act),G a0→Each (fun i o m=>i<L→gY P ops Q' dl R a0 w i o m) ops.toList MS 0)
 (fin:∀ a' w',Below w.heap.size w w'→Like dl a a'→(∀ j,j<L→Knows dl R a' w' j)→wpAny P .any ops Q F LL a' w'):(Code.region id ops true).wp P Q a w:=by
 refine wp_region_any hm ?_
 refine PW (w0:=w) hok hds (fun d hd=>?_) hdl (by simpa [Nat.blt_eq] using hL) (by rw[hMS];exact hlast) hLL WV hF hR (by rw[hMS];exact each hds Q a hG) fin ops.size _ a w.drew (by simp) (fun j o hj=>?_) (fun j hj=>?_) ?_ (aG _ _).drew ⟨rfl,rfl,fun _ _=>rfl⟩ (fun j hj=>?_)
 ·have:=List.all_eq_true.1 hsz _ hd
  simpa [Nat.blt_eq] using this
 ·rw[bQ,Array.getElem?_replicate] at hj
  split at hj <;> simp at hj
 ·rw[bQ,Array.getElem?_replicate]
  split <;> simp
 ·unfold Xn
  simp
 ·rw[bQ,Array.getElem?_replicate] at hj
  split at hj <;> simp at hj
end
end dP
end Go.Proofs.YtjhkihkiebnpaaaGreatDoor
