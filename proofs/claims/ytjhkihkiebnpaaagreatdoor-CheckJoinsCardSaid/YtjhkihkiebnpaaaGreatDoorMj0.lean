/-
  Laws by short names.
-/
import Derived.WalkKit
import Derived.Lib.Hide
import Derived.Deep.AppendLies
import Derived.Laws.AppendOwn
import Derived.Laws.IdiomRangeMap
import Derived.OrdersHeld
import Derived.Below
import Derived.Test.YtjhkihkiebnpaaaGreatDoorRows
namespace Go.RowKit
theorem Hid.o {p:Prop} (h:Hid p):p:=h.out
end Go.RowKit
namespace Go.Proofs
open Go.RowKit
universe u v w
theorem ae {p:Prop} (h:p):Hid p:=Lib.hid h
theorem ah {α:Type u} {xs:List α} {i:Nat} (h:i<xs.toArray.size):xs.toArray[i]=xs[i]'(by simpa using h):=rfl
theorem ai {α:Type u} {a:α} {bs:List α} (h:0<(a::bs).length):(a::bs)[0]=a:=rfl
theorem aj {α:Type u} {a:α} {bs:List α} {i:Nat} (h:i+1<(a::bs).length):(a::bs)[i+1]=bs[i]'(Nat.lt_of_succ_lt_succ h):=rfl
theorem au {α:Type u} (l:List α) (i:Nat) (a:α):l.toArray.setIfInBounds i a=(l.set i a).toArray:=List.setIfInBounds_toArray l i a
theorem ay {α:Type u} {x:α} {xs:List α} {a:α}:(x::xs).set 0 a=a::xs:=rfl
theorem az {α:Type u} {x:α} {xs:List α} {i:Nat} {a:α}:(x::xs).set (i+1) a=x::xs.set i a:=rfl
theorem aA {α:Sort u}{β:Sort v}{γ:Sort w}{p:α→β→γ→Prop}:∀ a b c,p a b c→p a b c:=fun _ _ _ h=>h
theorem aB {α:Type u}{a b:α}(h:a=b):some a=some b:=congrArg some h
theorem aC {P:Program}{ops:Array Oper}{Q:Exit→Act→World→Prop}{md:Region.Mode}{S:World→Prop}{i:Nat}{oi:Oper}{v:Value}{fuel:Nat}{listed:Array Bool}{a:Act}{w:World}(hi:ops[i]?=some oi)(hb:(Region.noSelect ops&&(Region.free md ops listed i&&(Region.ready md ops listed).contains i))=true)(hQ:∀ c a w,Q (.panic c) (a.put oi.dst v) w→Q (.panic c) a w)(hy:YieldsIf P ops S oi v a)(hS:S w)(h:wpAnyH P md ops Q S fuel (listed.setIfInBounds i true) (a.put oi.dst v) w):wpAnyH P md ops Q S (fuel+1) listed a w:=by
 simp only[Bool.and_eq_true] at hb
 exact wpAnyH_take hi hb.1 hb.2.1 hb.2.2 hQ hy hS h
abbrev aF:=@Nat.le_refl
abbrev aG:=@Below.refl
abbrev aH:=@heap_alloc_new
abbrev aI:=@Below.heap_setCell
abbrev aJ:=@bodyPost_ret
abbrev aK:=@Nat.lt_of_lt_of_le
abbrev aN:=@List.mem_of_getElem?.{u}
abbrev aO:=@List.getElem?_eq_getElem.{u}
abbrev aP:=@Below.heap_alloc
abbrev aQ:=@Nat.lt_of_lt_of_eq
abbrev aS:=@Nat.le_trans
abbrev aT:=@World.cell?_of_block
abbrev aU:=@Array.getElem?_eq_some_iff.{u}
abbrev aV:=@List.getElem?_eq_some_iff.{u}
abbrev aW:=@Nat.le_succ
abbrev aX:=@Nat.zero_le
abbrev aY:=@Option.some.inj.{u}
abbrev aZ:=@List.length_append.{u}
abbrev bf:=@List.length_cons.{u}
abbrev bz:=@World.news_of_block
abbrev bD:=@Or.inl
abbrev bF:=@List.eq_nil_of_length_eq_zero.{u}
abbrev bG:=@List.mem_cons_of_mem.{u}
abbrev bH:=@List.mem_cons_self.{u}
abbrev bI:=@List.not_mem_nil.{u}
abbrev bJ:=@List.take_of_length_le.{u}
abbrev bK:=@List.getElem?_append_right.{u}
abbrev bM:=@List.length_map.{u,v}
abbrev bP:=@List.getElem?_map.{u,v}
abbrev bQ:=@Array.getD_eq_getD_getElem?.{u}
abbrev bT:=@ByteArray.size_append
abbrev bU:=@And.intro
abbrev bV:=@Nat.le_of_lt
abbrev bW:=@List.drop_of_length_le.{u}
abbrev bY:=@List.drop_eq_getElem_cons.{u}
abbrev bZ:=@List.mem_cons.{u}
abbrev cu:=@List.mem_append.{u}
abbrev cZ:=@List.length_singleton.{u}
abbrev df:=@List.mem_singleton.{u}
end Go.Proofs
