/-
  Law 8's known, run by the kernel.
-/
import Derived.Test.YtldleckgkgeclaaDoorMb32
import Derived.Test.YtldleckgkgeclaaDoorChecked
import Derived.Test.YtldleckgkgeclaaDoorMb8
import Derived.OrdersHeld
import Derived.Deep.RegionHeld
import Derived.KernelRfl
set_option linter.unusedVariables false
set_option linter.unusedSimpArgs false
namespace Go.Proofs.YtldleckgkgeclaaDoor
open Go.RowKit
theorem primsHere : primsAt [34] [109] (Tryd.prog).funcs.toList 0 = true := by kernel_rfl
theorem joinHere {f : FuncId} {fn : Func} (h : (Tryd.prog).funcs[f]? = some fn) (hk : primKind fn.name = 1) : f = 34 := by
  have := (primsAt_spec primsHere f fn (by simpa using h)).1 hk
  simpa using this
theorem cloneHere {f : FuncId} {fn : Func} (h : (Tryd.prog).funcs[f]? = some fn) (hk : primKind fn.name = 2) : f = 109 := by
  have := (primsAt_spec primsHere f fn (by simpa using h)).2 hk
  simpa using this
instance extOk : ExtOk Tryd.prog where
  none_ f fn h hk a c sep w := by
    rw [joinHere h hk]
    refine (Tryd.strings_Join_none a c sep w).mono ?_
    rintro e w' ⟨he, hw⟩
    exact ⟨he, hw ▸ Below.refl _ _⟩
  join f fn h hk bk o c xs sep w h1 h2 h3 h4 h5 := by
    rw [joinHere h hk]
    exact Tryd.strings_Join bk o c xs sep w h1 h2 h3 h4 h5
  clone f fn h hk s w hs := by
    rw [cloneHere h hk]
    exact Tryd.stringslite_Clone s w hs
theorem follows_ : (Tryd.prog).follows .mixedOrders = true := by kernel_rfl
set_option maxRecDepth 1000000
theorem known8_run : runPlain Tryd.prog 100000 11 [] [] = some (.bool true) := by kernel_rfl
theorem known8_any (w : World) : Calls Tryd.prog 11 #[] w fun e w' => e = .returned (.bool true) ∧ Below w.heap.size w w' := plain_run follows_ known8_run w (tabsAt_none w)
end Go.Proofs.YtldleckgkgeclaaDoor
/-
  A region that draws its order, whose last operation (k) may write what the loads read: a load may be taken first where the cells hold until k. No program in sight.
-/
set_option linter.unusedVariables false
set_option linter.unusedSimpArgs false
namespace Go.Proofs.YtldleckgkgeclaaDoor
namespace LastKit
section
variable {P : Program} {ops : Array Oper} {Q : Exit → Act → World → Prop} {md : Region.Mode} {S : World → Prop} {k : Nat}
/-- whatever order is picked from here on; S holds behind every operation but k -/
def wpAnyK (P : Program) (md : Region.Mode) (ops : Array Oper) (Q : Exit → Act → World → Prop) (S : World → Prop) (k : Nat) : Nat → Array Bool → Act → World → Prop
  | 0, listed, a, w => Region.ready md ops listed = [] ∧ Q .normal a w
  | fuel + 1, listed, a, w =>
    (Region.ready md ops listed = [] → Q .normal a w) ∧
    ∀ i ∈ Region.ready md ops listed, wpOp P ops Q i (fun a' w' => (i ≠ k → S w') ∧ wpAnyK P md ops Q S k fuel (listed.setIfInBounds i true) a' w') a w
theorem wpAny_of_last : ∀ (fuel : Nat) (listed : Array Bool) (a : Act) (w : World), wpAnyK P md ops Q S k fuel listed a w → wpAny P md ops Q fuel listed a w
  | 0, _, _, _, h => h
  | fuel + 1, _, _, _, h => ⟨h.1, fun i hi => wpOp_mono (fun a' w' h' => wpAny_of_last fuel _ a' w' h'.2) (h.2 i hi)⟩
theorem wpAnyK_first {i : Nat} {oi : Oper} {v : Value} {C : List Nat} (hi : ops[i]? = some oi) (hsel : ∀ (j : Nat) (o : Oper) cs b, ops[j]? = some o → o.op ≠ .select cs b)
    (hQ : ∀ c a w, Q (.panic c) (a.put oi.dst v) w → Q (.panic c) a w) (hkC : k ∈ C)
    (hC : ∀ c ∈ C, c ≠ i → ∀ o, ops[c]? = some o → ∃ e ∈ o.after, Region.binds md e = true ∧ e.on ∈ C) :
    ∀ (fuel : Nat) (listed : Array Bool) (a : Act) (w : World),
      (∀ j oj, ops[j]? = some oj → j ≠ i → listed.getD j true = false → (∀ e ∈ oj.after, Region.binds md e = true → e.on ≠ i) → oi.apart ops oj = true) →
      (∀ c ∈ C, listed.getD c true = false) →
      i ∈ Region.ready md ops listed → YieldsIf P ops S oi v a → S w →
      wpAnyK P md ops Q S k fuel (listed.setIfInBounds i true) (a.put oi.dst v) w → wpAnyK P md ops Q S k (fuel + 1) listed a w := by
  intro fuel
  induction fuel with
  | zero =>
    intro listed a w _ _ hr hy hS H
    refine ⟨fun h => (by rw [h] at hr; cases hr), fun j hj => ?_⟩
    by_cases hji : j = i
    · subst hji; exact hy.wpOp hi hS ⟨fun _ => hS, H⟩
    · have := ready_mono hj hji
      rw [H.1] at this
      cases this
  | succ fuel ih =>
    intro listed a w hfree hun hr hy hS H
    refine ⟨fun h => (by rw [h] at hr; cases hr), fun j hj => ?_⟩
    by_cases hji : j = i
    · subst hji; exact hy.wpOp hi hS ⟨fun _ => hS, H⟩
    · have h1 := H.2 j (ready_mono hj hji)
      obtain ⟨hjun, oj, hoj, hall⟩ := mem_ready.1 hj
      have hjC : j ∉ C := fun hm => by
        obtain ⟨e, he, hb, heC⟩ := hC j hm hji oj hoj
        have t1 := hall e he hb
        have t2 := hun e.on heC
        rcases Nat.lt_or_ge e.on listed.size with h' | h'
        · simp [h'] at t1 t2; rw [t1] at t2; cases t2
        · simp [Array.getElem?_eq_none h'] at t1
      have hjk : j ≠ k := fun e => hjC (by rw [e]; exact hkC)
      have hnot : ∀ e ∈ oj.after, Region.binds md e = true → e.on ≠ i := fun e he hb heq => by
        have h1 := hall e he hb
        have h0 := (mem_ready.1 hr).1
        rw [heq] at h1
        rcases Nat.lt_or_ge i listed.size with h' | h'
        · simp [h'] at h0 h1; rw [h0] at h1; cases h1
        · simp [Array.getElem?_eq_none h'] at h1
      have h2 := wpOp_putIf hoj (hfree j oj hoj hji hjun hnot) (fun cs b => hsel i oi cs b hi) (fun cs b => hsel j oj cs b hoj) hQ hy h1
      have hfree' : ∀ k ok, ops[k]? = some ok → k ≠ i → (listed.setIfInBounds j true).getD k true = false →
          (∀ e ∈ ok.after, Region.binds md e = true → e.on ≠ i) → oi.apart ops ok = true := fun k ok hk hki hun hno => by
        refine hfree k ok hk hki ?_ hno
        by_cases hjk : j = k
        · subst hjk; exact hjun
        · rw [getD_set_ne true hjk] at hun; exact hun
      have hun' : ∀ c ∈ C, (listed.setIfInBounds j true).getD c true = false := fun c hc => by
        have hne : j ≠ c := fun e => hjC (by rw [e]; exact hc)
        rw [getD_set_ne true hne]; exact hun c hc
      refine wpOp_mono (fun a' w' h3 => ⟨h3.2.1, ih (listed.setIfInBounds j true) a' w' hfree' hun' (ready_mono hr (Ne.symm hji)) h3.1 (h3.2.1 hjk) ?_⟩) h2
      rw [Array.setIfInBounds_comm _ _ hji]
      exact h3.2.2
/-- every one of C but i waits for one of C; none of them is listed; k is one of them -/
def chainOk (md : Region.Mode) (ops : Array Oper) (listed : Array Bool) (C : List Nat) (i k : Nat) : Bool :=
  C.contains k && C.all fun c => (!(listed.getD c true)) && (Nat.beq c i || match ops[c]? with
    | some o => o.after.any fun e => Region.binds md e && C.contains e.on
    | none => true)
theorem wpAnyK_take {i : Nat} {oi : Oper} {v : Value} {C : List Nat} {fuel : Nat} {listed : Array Bool} {a : Act} {w : World} (hi : ops[i]? = some oi)
    (hs : Region.noSelect ops = true) (hf : Region.free md ops listed i = true) (hr : (Region.ready md ops listed).contains i = true) (hc : chainOk md ops listed C i k = true)
    (hQ : ∀ c a w, Q (.panic c) (a.put oi.dst v) w → Q (.panic c) a w) (hy : YieldsIf P ops S oi v a) (hS : S w)
    (h : wpAnyK P md ops Q S k fuel (listed.setIfInBounds i true) (a.put oi.dst v) w) : wpAnyK P md ops Q S k (fuel + 1) listed a w := by
  unfold chainOk at hc
  simp only [Bool.and_eq_true, List.all_eq_true, Bool.or_eq_true, Nat.beq_eq] at hc
  obtain ⟨hk, hc⟩ := hc
  refine wpAnyK_first hi (Region.noSelect_spec hs) hQ (by simpa using hk) (fun c hm hne o ho => ?_) fuel listed a w (Region.free_spec hi hf) (fun c hm => by have := (hc c hm).1; simpa using this) (by simpa using hr) hy hS h
  rcases (hc c hm).2 with h' | h'
  · exact absurd h' hne
  · rw [ho] at h'
    simp only [Array.any_eq_true, Bool.and_eq_true] at h'
    obtain ⟨n, hn, hb, hcn⟩ := h'
    exact ⟨o.after[n], Array.getElem_mem hn, hb, by simpa using hcn⟩
def AllReadyK (P : Program) (md : Region.Mode) (ops : Array Oper) (Q : Exit → Act → World → Prop) (S : World → Prop) (k : Nat) (fuel : Nat) (listed : Array Bool) (a : Act) (w : World) (rs : List Nat) : Prop :=
  ∀ i ∈ rs, wpOp P ops Q i (fun a' w' => (i ≠ k → S w') ∧ wpAnyK P md ops Q S k fuel (listed.setIfInBounds i true) a' w') a w
theorem AllReadyK.nil {fuel : Nat} {listed : Array Bool} {a : Act} {w : World} : AllReadyK P md ops Q S k fuel listed a w [] := fun _ h => by cases h
theorem AllReadyK.cons {fuel : Nat} {listed : Array Bool} {a : Act} {w : World} {i : Nat} {o : Oper} {rs : List Nat} (ho : ops[i]? = some o)
    (h : ∀ K' : Act → World → Prop, Shut (∀ a w, S w → (S w → wpAnyK P md ops Q S k fuel (listed.setIfInBounds i true) a w) → K' a w) → if Region.wanted o (yielded ops a.tmps) = true then Oper.wp P o a w K' Q else K' (a.put o.dst undef) w)
    (hs : AllReadyK P md ops Q S k fuel listed a w rs) : AllReadyK P md ops Q S k fuel listed a w (i :: rs) := fun j hj => by
  rcases List.mem_cons.1 hj with rfl | hj
  · exact wpOp_step ho (fun K' hK => h K' (fun a w hS hW => hK a w ⟨fun _ => hS, hW hS⟩))
  · exact hs j hj
/-- the last one: S is not asked behind it -/
theorem AllReadyK.last {fuel : Nat} {listed : Array Bool} {a : Act} {w : World} {o : Oper} (ho : ops[k]? = some o)
    (h : ∀ K' : Act → World → Prop, Shut (∀ a w, wpAnyK P md ops Q S k fuel (listed.setIfInBounds k true) a w → K' a w) → if Region.wanted o (yielded ops a.tmps) = true then Oper.wp P o a w K' Q else K' (a.put o.dst undef) w) :
    AllReadyK P md ops Q S k fuel listed a w [k] := fun j hj => by
  obtain rfl : j = k := by simpa using hj
  exact wpOp_step ho (fun K' hK => h K' (fun a w hW => hK a w ⟨fun e => absurd rfl e, hW⟩))
theorem wpAnyK_ready {rs : List Nat} {fuel : Nat} {listed : Array Bool} {a : Act} {w : World} (hr : Region.ready md ops listed = rs) (hne : rs ≠ [])
    (h : AllReadyK P md ops Q S k fuel listed a w rs) : wpAnyK P md ops Q S k (fuel + 1) listed a w := ⟨fun h0 => absurd (hr ▸ h0) hne, hr ▸ h⟩
theorem wpAnyK_done {listed : Array Bool} {a : Act} {w : World} (hr : Region.ready md ops listed = []) (h : Q .normal a w) :
    ∀ fuel, wpAnyK P md ops Q S k fuel listed a w
  | 0 => ⟨hr, h⟩
  | _ + 1 => ⟨fun _ => h, by rw [hr]; simp⟩
theorem wp_region_last {id : Nat} {a : Act} {w : World} (S : World → Prop) (k : Nat) (hm : P.follows .mixedOrders = true) (hS : S w.drew)
    (h : S w.drew → wpAnyK P .any ops Q S k ops.size (Array.replicate ops.size false) a w.drew) : (Code.region id ops true).wp P Q a w :=
  wp_region_any hm (wpAny_of_last _ _ _ _ (h hS))
end
end LastKit
end Go.Proofs.YtldleckgkgeclaaDoor
/-
  One operation of a region that draws: a row literal of no tree or of one tree. (The walk's own simp is slow for the kernel in a large context.)
-/
namespace Go.Proofs.YtldleckgkgeclaaDoor
open Go.RowKit
set_option maxRecDepth 100000 in
set_option maxHeartbeats 4000000 in
theorem step_build5 {ops : Array Oper} {a : Act} {w : World} {K : Act → World → Prop} {Q : Exit → Act → World → Prop} {E : Prop} (o : Oper) (hg : o.guard = none) (x : Tmp) (ho : o.op = .buildSlice 32 1 #[(0, .tmp x)])
   (k n l : Int) (s : ByteArray) (A : Option Addr) (m c : Nat) (hv : a.eval (.tmp x) = .agg #[.int .i64 k, .string s, .int .i64 n, .slice A m c, .int .i64 l])
   (h : K (a.put o.dst (.slice (some ⟨w.heap.size, 0, none⟩) 1 1)) (w.alloc (.cells #[.int .i64 k, .string s, .int .i64 n, .slice A m c, .int .i64 l] 34))) :
   if Region.wanted o (yielded ops a.tmps) = true then Oper.wp Tryd.prog o a w K Q else E := by
  have hw : Region.wanted o (yielded ops a.tmps) = true := by simp [Region.wanted, hg]
  rw [if_pos hw]
  have hv' : a.tmps[x]?.getD undef = .agg #[.int .i64 k, .string s, .int .i64 n, .slice A m c, .int .i64 l] := by simpa [Act.eval] using hv
  clear hv hw
  obtain ⟨d, op, ty, p, af, gd⟩ := o
  simp only at ho hg h
  subst ho hg
  go_simp
  exact h
set_option maxRecDepth 100000 in
set_option maxHeartbeats 4000000 in
theorem step_build0 {ops : Array Oper} {a : Act} {w : World} {K : Act → World → Prop} {Q : Exit → Act → World → Prop} {E : Prop} (o : Oper) (hg : o.guard = none) (ho : o.op = .buildSlice 32 0 #[])
   (h : K (a.put o.dst (.slice (some ⟨w.heap.size, 0, none⟩) 0 0)) (w.alloc (.cells #[] 34))) :
   if Region.wanted o (yielded ops a.tmps) = true then Oper.wp Tryd.prog o a w K Q else E := by
  have hw : Region.wanted o (yielded ops a.tmps) = true := by simp [Region.wanted, hg]
  rw [if_pos hw]
  clear hw
  obtain ⟨d, op, ty, p, af, gd⟩ := o
  simp only at ho hg h
  subst ho hg
  go_simp
  exact h
end Go.Proofs.YtldleckgkgeclaaDoor
