/-
  slices.AppendSeq over maps.Values of a map of structs.
-/
import Derived.Test.YtloolljoelngcaaGreatSeqVals
import Derived.Shelf.Abstract
import Derived.Shelf.SlIter.Collect
set_option linter.unusedVariables false
namespace Go.Proofs.YtloolljoelngcaaGreat
open Go.RowKit Go.Maps Go.Sort Go.Proofs
def rfFind : Code → Option (Code × Code)
  | .rangeFunc _ _ a b => some (a, b)
  | .seq a b => match rfFind a with
    | some x => some x
    | none => rfFind b
  | .block _ c => rfFind c
  | .scope c => rfFind c
  | _ => none
noncomputable def rfParts : Code × Code := match Tryz.f125.body with
  | some c => (rfFind c).getD (.skip, .skip)
  | none => (.skip, .skip)
noncomputable def codeA : Code := rfParts.1
noncomputable def codeB : Code := rfParts.2
def cellsG (c : VV) : List Value := [.slice c.p c.n c.k, .slice c.q c.m c.j]
/-- the loop's record, between two rounds -/
def recG (fn : FuncId) (A B : Code) (sv : Value) (Bs D : Nat) (st : LoopState) (pend : Option Code) : Loop :=
  { state := st, pending := pend, fn, tmps := #[.slice none 0 0, sv, .pointer (some ⟨Bs, 0, none⟩), undef, .slice none 0 0, undef, sv, undef, undef, undef, undef, undef, undef], params := #[7], assign := A, body := B, defers := D }
structure ApG (A B : Code) (w0 : World) (fn : FuncId) (sv : Value) (Bs l D : Nat) (ss : List VV) (W : World) : Prop where
  box : ∃ v, W.heap[Bs]? = some (.cells #[v] 84 (0, 0)) ∧ W.ownsRow w0.heap.size 68 2 v ss.length (ss.flatMap cellsG) ∧ (v = .slice none 0 0 ↔ ss = [])
  L : W.heap[l]? = some (.loop (recG fn A B sv Bs D .ready none))
  K : W.heap[D]? = some (.deferred (some []))
  below : Below w0.heap.size w0 W
theorem group_info : (Tryz.prog.info? 68).map (fun i => (i.zero, i.size, i.bytes)) = some (some (.agg #[.slice none 0 0, .slice none 0 0]), 2, 48) := by kernel_rfl
theorem news_at (W : World) (x : VV) : ∀ (j : Nat) u, (cellsG x)[j]? = some u → (W.alloc (.cells #[.slice x.p x.n x.k, .slice x.q x.m x.j] 68)).cell? ((⟨W.heap.size, 0, none⟩ : Addr).add j) = some u := by
  intro j u hj
  match j, hj with
  | 0, hj => simp [cellsG] at hj; subst hj; simp [Addr.add]
  | 1, hj => simp [cellsG] at hj; subst hj; simp [Addr.add]
  | j + 2, hj => simp [cellsG] at hj
set_option maxRecDepth 100000 in
set_option maxHeartbeats 4000000 in
theorem app_round (F : Fence) (m : Nat) (w0 : World) (fn : FuncId) (hfn : F.fn fn) (sv : Value) (Bs l D : Nat) (hBl : Bs ≠ l) (hDl : D ≠ l) (hDB : D ≠ Bs) (h0B : w0.heap.size ≤ Bs) (h0l : w0.heap.size ≤ l)
    (ss : List VV) (x : VV) (W : World) (h : ApG codeA codeB w0 fn sv Bs l D ss W) (hlen : ss.length < 100) :
    YieldAt F m Tryz.prog l #[encG x] W fun e W' => e = .returned (.bool true) ∧ ApG codeA codeB w0 fn sv Bs l D (ss ++ [x]) W' ∧ KeepsWalks W W' := by
  obtain ⟨v, hv, hrow, _⟩ := h.box
  refine ⟨fn, #[.slice none 0 0, sv, .pointer (some ⟨Bs, 0, none⟩), undef, .slice none 0 0, undef, sv, encG x, undef, undef, undef, undef, undef], codeA, codeB, by simpa [recG] using run_yield (P := Tryz.prog) (args := #[encG x]) h.L rfl, roundIn_of_wpIn hfn ?_⟩
  have hl : l < W.heap.size := (Array.getElem?_eq_some_iff.1 h.L).1
  have hBsl : Bs < W.heap.size := (Array.getElem?_eq_some_iff.1 hv).1
  have hDl0 : D < W.heap.size := (Array.getElem?_eq_some_iff.1 h.K).1
  obtain ⟨Wa, hWa⟩ : ∃ Wa, W.alloc (.cells #[.slice x.p x.n x.k, .slice x.q x.m x.j] 68) = Wa := ⟨_, rfl⟩
  have holda : ∀ k, k < W.heap.size → Wa.heap[k]? = W.heap[k]? := fun k hk => by rw [← hWa]; exact Below.heap_alloc _ _ k hk
  have hnewa : Wa.heap[W.heap.size]? = some (.cells #[.slice x.p x.n x.k, .slice x.q x.m x.j] 68 (0, 0)) := by rw [← hWa]; exact World.alloc_heap_new W _
  have hsza : Wa.heap.size = W.heap.size + 1 := by rw [← hWa]; simp
  have hLa : Wa.heap[l]? = some (.loop (recG fn codeA codeB sv Bs D .ready none)) := (holda l hl).trans h.L
  obtain ⟨W2, hW2⟩ : ∃ W2, Wa.putObj l (.loop { recG fn codeA codeB sv Bs D .ready none with state := .busy }) = W2 := ⟨_, rfl⟩
  have hbr := run_beginRound (P := Tryz.prog) hLa rfl
  rw [hW2] at hbr
  have hga : W.grownBy Wa none := by rw [← hWa]; exact World.grownBy_alloc W _ none
  have hg2 : Wa.grownBy W2 (some l) := by rw [← hW2]; exact grownBy_putObj_a _ _ _
  have hk2 : KeepsWalks W W2 := by rw [← hW2, ← hWa]; exact (KeepsWalks.alloc _ _).trans (KeepsWalks.putObj _ (by rw [hWa]; exact hLa) rfl)
  have hv2 : W2.heap[Bs]? = some (.cells #[v] 84 (0, 0)) := by rw [← hW2]; exact (World.putObj_heap_other hBl).trans ((holda Bs hBsl).trans hv)
  have hK2 : W2.heap[D]? = some (.deferred (some [])) := by rw [← hW2]; exact (World.putObj_heap_other hDl).trans ((holda D hDl0).trans h.K)
  have hL2 : W2.heap[l]? = some (.loop { recG fn codeA codeB sv Bs D .ready none with state := .busy }) := by rw [← hW2]; exact World.putObj_heap_same (by omega)
  have hx2 : W2.heap[W.heap.size]? = some (.cells #[.slice x.p x.n x.k, .slice x.q x.m x.j] 68 (0, 0)) := by rw [← hW2]; exact (World.putObj_heap_other (by omega)).trans hnewa
  have hx0 : W2.cell? ⟨W.heap.size, 0, none⟩ = some (.slice x.p x.n x.k) := by simp [World.cell?, hx2]
  have hx1 : W2.cell? ⟨W.heap.size, 1, none⟩ = some (.slice x.q x.m x.j) := by simp [World.cell?, hx2]
  have hrowa : Wa.ownsRow w0.heap.size 68 2 v ss.length (ss.flatMap cellsG) := hrow.kept hga (by cases v.ownBlock <;> simp)
  have hrow2 : W2.ownsRow w0.heap.size 68 2 v ss.length (ss.flatMap cellsG) := hrowa.kept hg2 (ownsRow_ne_a hrowa hLa (fun cur e => by cases e))
  have hba : Below w0.heap.size w0 Wa := by rw [← hWa]; exact h.below.alloc h.below.size _
  have hb2 : Below w0.heap.size w0 W2 := hba.grown hg2 hba.size (fun k e => by cases e; exact h0l)
  obtain ⟨hc2, hf2⟩ := cell_of_box_a hv2
  generalize hPA : ApG codeA codeB w0 fn sv Bs l D (ss ++ [x]) = PA
  simp only [codeA, codeB, rfParts, Tryz.f125, rfFind, Option.getD_some]
  have hBlt : Bs < W2.heap.size := (Array.getElem?_eq_some_iff.1 hv2).1
  have hl2 : l < W2.heap.size := (Array.getElem?_eq_some_iff.1 hL2).1
  have hDlt : D < W2.heap.size := (Array.getElem?_eq_some_iff.1 hK2).1
  obtain ⟨i0, hi, hz0, hz1, hz2⟩ := info_parts group_info
  have ne_of : ∀ {j : Nat} {o : Obj}, W2.heap[j]? = some o → (∀ cur, o ≠ .cells cur 68 (0, 0)) → some j ≠ v.ownBlock := fun hj hno => by
    rcases ownsRow_ne_a hrow2 hj hno with e | e
    · rw [e]; simp
    · exact fun e' => e e'.symm
  clear hW2
  gi_wp2_with (first
    | (gi_at_builtin; refine wpListIn_append_own _ rfl _ _ 84 rfl w0.heap.size 68 i0 (.agg #[.slice none 0 0, .slice none 0 0]) 2 48 Tryz.underlying84 hi hz0 hz1 hz2 rfl (by decide) v ss.length _ rfl (hrow2.alloc _) ⟨W2.heap.size, 0, none⟩ 1 1 (cellsG x) rfl rfl (news_at _ _) (by simp [cellsG, Value.oneCell']) (by simp only [maxLen]; omega) (by omega) (by have := hb2.size; simp; omega) ?_; intro v' w3 hown' hg3 hnil3
       have hv3 : w3.heap[Bs]? = some (.cells #[v] 84 (0, 0)) := (hg3.block Bs (by simp; omega) (ne_of hv2 (fun cur e => by cases e))).trans ((Below.heap_alloc _ _ Bs hBlt).trans hv2)
       obtain ⟨hc3, hf3⟩ := cell_of_box_a hv3
       obtain ⟨g', cap', cur', rfl, hbase', hgb', hr1, hr2, hr3, hr4⟩ : ∃ g' cap' cur', v' = .slice (some ⟨g', 0, none⟩) (ss.length + 1) cap' ∧ w0.heap.size ≤ g' ∧ w3.heap[g']? = some (.cells cur' 68 (0, 0)) ∧ ss.length + 1 ≤ cap' ∧ cap' ≤ maxLen ∧ cur'.size = cap' * 2 ∧ cur'.toList.take ((ss.length + 1) * 2) = ss.flatMap cellsG ++ cellsG x := by
         rcases hown'.2 with ⟨_, h0⟩ | h'
         · exact absurd h0 (by omega)
         · exact h'
       go_frame)
    | (rw [Oper.semAt_eq _ _ _ (fun c h => by cases h)]; go_simp))
  have hg3' : (W2.alloc (.cells #[.slice x.p x.n x.k, .slice x.q x.m x.j] 68)).grownBy w3 v.ownBlock := hg3
  have hL3 : w3.heap[l]? = some (.loop { recG fn codeA codeB sv Bs D .ready none with state := .busy }) := (hg3'.block l (by simp; omega) (ne_of hL2 (fun cur e => by cases e))).trans ((Below.heap_alloc _ _ l hl2).trans hL2)
  have hK3 : w3.heap[D]? = some (.deferred (some [])) := (hg3'.block D (by simp; omega) (ne_of hK2 (fun cur e => by cases e))).trans ((Below.heap_alloc _ _ D hDlt).trans hK2)
  obtain ⟨w4, hw4⟩ : ∃ w4, w3.setCell ⟨Bs, 0, none⟩ (.slice (some ⟨g', 0, none⟩) (ss.length + 1) cap') = w4 := ⟨_, rfl⟩
  rw [hw4]
  have hg4 : w3.grownBy w4 (some Bs) := by rw [← hw4]; exact grownBy_setCell0_a _ _ _
  have hv4 : w4.heap[Bs]? = some (.cells #[.slice (some ⟨g', 0, none⟩) (ss.length + 1) cap'] 84 (0, 0)) := by rw [← hw4]; exact heap_setCell_box_a _ hv3
  have hL4 : w4.heap[l]? = some (.loop { recG fn codeA codeB sv Bs D .ready none with state := .busy }) := (hg4.block l (Array.getElem?_eq_some_iff.1 hL3).1 (fun e => hBl (by cases e; rfl))).trans hL3
  have hK4 : w4.heap[D]? = some (.deferred (some [])) := (hg4.block D (Array.getElem?_eq_some_iff.1 hK3).1 (fun e => hDB (by cases e; rfl))).trans hK3
  have hrow4 := hown'.kept hg4 (ownsRow_ne_a hown' hv3 (fun cur e => by cases e))
  have hl4 : l < w4.heap.size := (Array.getElem?_eq_some_iff.1 hL4).1
  have hb3 : Below w0.heap.size w0 w3 := (hb2.alloc hb2.size _).grown hg3' (by have := hb2.size; simp; omega) (fun k e => (hrow2.lt k e).1)
  have hb4 : Below w0.heap.size w0 w4 := hb3.grown hg4 hb3.size (fun k e => by cases e; exact h0B)
  have hk4 : KeepsWalks W w4 := ((hk2.trans (KeepsWalks.alloc _ _)).trans (KeepsWalks.of_grownBy hg3' (ownsRow_not_walk_a (hrow2.alloc _)))).trans (by rw [← hw4]; exact KeepsWalks.setCell _ _ _)
  clear hw4
  subst hPA
  refine ⟨_, _, run_endRound none hL4, rfl, ⟨⟨_, (World.putObj_heap_other hBl).trans hv4, ?_, by simp⟩, World.putObj_heap_same hl4, (World.putObj_heap_other hDl).trans hK4, hb4.grown (grownBy_putObj_a _ _ _) hb4.size (fun k e => by cases e; exact h0l)⟩, hk4.trans (KeepsWalks.putObj _ hL4 rfl)⟩
  have := hrow4.kept (grownBy_putObj_a w4 l (.loop { { recG fn codeA codeB sv Bs D .ready none with state := .busy } with state := if (none : Option Code).isNone then .ready else .done, pending := none })) (ownsRow_ne_a hrow4 hL4 (fun cur e => by cases e))
  simpa using this
theorem ap_abides (A B : Code) (w0 : World) (fn : FuncId) (sv : Value) (Bs l D C : Nat) (hB : w0.heap.size ≤ C) : AbidesFrom C (ApG A B w0 fn sv Bs l D) := fun s W W' row h hg hrow => by
  have hrow' : ∀ r, row = some r → ∃ o : Obj, W.heap[r]? = some o ∧ o.isWalk = true := fun r e => (hrow r e).2
  obtain ⟨v, hv, hr, hn⟩ := h.box
  exact ⟨⟨v, (grownBy_keeps hg hrow' hv rfl).trans hv, ownsRow_abides_a hr hg hrow', hn⟩, (grownBy_keeps hg hrow' h.L rfl).trans h.L, (grownBy_keeps hg hrow' h.K rfl).trans h.K,
    h.below.grown hg h.below.size (fun k e => Nat.le_trans hB (hrow k e).1)⟩
set_option maxRecDepth 100000 in
set_option maxHeartbeats 4000000 in
theorem app_in (F : Fence) (n : Nat) (h125 : F.fn 125) (h109 : F.fn 109) (hro : F.round = none) (hn : 2 ≤ n) (Bm off b nn : Nat) (D0 : DataW Value) (hsz : Maps.size D0 ≤ 100) (w : World) (hBm : Bm < w.heap.size) (hm : w.cell? ⟨Bm, off, none⟩ = some (.map (some b))) (hown : w.ownsMap Tryz.prog 9 rdG b nn D0) :
    CallsIn F n Tryz.prog 125 #[.slice none 0 0, .func (.func 109) #[] #[.pointer (some ⟨Bm, off, none⟩)]] w fun e w' => ∃ (v : Value) (xs : List VV), e = .returned v ∧ (∃ ps, AllG D0 ps ∧ xs = ps.map (·.2)) ∧ w'.ownsRow w.heap.size 68 2 v xs.length (xs.flatMap cellsG) ∧ (v = .slice none 0 0 ↔ xs = []) ∧ Below w.heap.size w w' := by
  refine callsIn_of_wp_marks Tryz.func125 rfl h125 ?_ hro
  simp only [Tryz.ntmps125, List.size_toArray, List.length_cons, List.length_nil, Nat.reduceAdd, Nat.reduceSub, Array.replicate_succ, Array.replicate_zero, List.push_toArray, List.append_toArray, List.nil_append, List.cons_append]
  gi_wp2
  refine wpIn_rangeFunc ?_
  intro fn hfn
  rw [hro]
  have h1 : 1 ≤ n := by omega
  obtain ⟨sv, hsv⟩ : ∃ sv, (Value.func (.func 109) #[] #[.pointer (some ⟨Bm, off, none⟩)]) = sv := ⟨_, rfl⟩
  obtain ⟨W0, hW0⟩ : ∃ W0, w.alloc (.cells #[.slice none 0 0] 84) = W0 := ⟨_, rfl⟩
  have hs0 : W0.heap.size = w.heap.size + 1 := by rw [← hW0]; simp
  have hv0 : W0.heap[w.heap.size]? = some (.cells #[.slice none 0 0] 84 (0, 0)) := by rw [← hW0]; exact World.alloc_heap_new w _
  have hb0 : Below w.heap.size w W0 := by rw [← hW0]; exact (Below.refl _ w).alloc (Nat.le_refl _) _
  rw [hW0]
  obtain ⟨W1, hW1⟩ : ∃ W1, (W0.alloc (.deferred (some []))).alloc (.loop (recG fn codeA codeB (.func (.func 109) #[] #[.pointer (some ⟨Bm, off, none⟩)]) w.heap.size W0.heap.size .ready none)) = W1 := ⟨_, rfl⟩
  have hold : ∀ k, k < W0.heap.size → W1.heap[k]? = W0.heap[k]? := fun k hk => by
    rw [← hW1]; exact (Below.heap_alloc _ _ k (by simp; omega)).trans (Below.heap_alloc _ _ k hk)
  have hb1 : Below w.heap.size w W1 := by rw [← hW1]; exact (hb0.alloc hb0.size _).alloc (by have := hb0.size; simp; omega) _
  have hs1 : W1.heap.size = W0.heap.size + 2 := by rw [← hW1]; simp
  have hM : ApG codeA codeB w fn (.func (.func 109) #[] #[.pointer (some ⟨Bm, off, none⟩)]) w.heap.size (W0.heap.size + 1) W0.heap.size [] W1 :=
    ⟨⟨_, (hold w.heap.size (by omega)).trans hv0, ⟨rfl, .inl ⟨rfl, rfl⟩⟩, by simp⟩,
     by rw [← hW1]; have := World.alloc_heap_new (W0.alloc (.deferred (some []))) (.loop (recG fn codeA codeB (.func (.func 109) #[] #[.pointer (some ⟨Bm, off, none⟩)]) w.heap.size W0.heap.size .ready none)); rwa [World.size_alloc] at this,
     by rw [← hW1]; exact (Below.heap_alloc _ _ _ (by simp)).trans (World.alloc_heap_new W0 _), hb1⟩
  have eg : ∀ args w, (callFunc 109 args).run Tryz.prog w = .ok (.enter 109 args) w := enters_of Tryz.func109 (by kernel_rfl) rfl
  refine ⟨W0.heap.size + 1, [{ target := .collected W0.heap.size, args := #[] }], W1, { target := .fn (.func 109) #[.pointer (some ⟨Bm, off, none⟩)], args := #[.func (.yield (W0.heap.size + 1)) #[] #[]] }, W1, 109,
    #[.func (.yield (W0.heap.size + 1)) #[] #[], .pointer (some ⟨Bm, off, none⟩)], W1, ?_, ?_, ?_, ?_, fun _ => h1, ?_⟩
  · rw [← hW1]; exact run_enterLoop_outer _ _ _ _ _
  · simp [resolve, go_sem]
  · intro f' hf'; simp [Target.leads] at hf'; subst hf'; exact h109
  · simp [invoke, go_sem, eg]
  · refine (vals_in F (n - 1) h109 hro (by omega) (W0.heap.size + 1) Bm off b nn D0 (ApG codeA codeB w fn (.func (.func 109) #[] #[.pointer (some ⟨Bm, off, none⟩)]) w.heap.size (W0.heap.size + 1) W0.heap.size)
      (fun pre x W hJ hl => app_round F (n - 1 - 1) w fn hfn _ w.heap.size (W0.heap.size + 1) W0.heap.size (by omega) (by omega) (by omega) (Nat.le_refl _) (by omega) pre x W hJ (by omega)) W1 (ap_abides _ _ _ _ _ _ _ _ _ hb1.size) ((hb1.cell (p := ⟨Bm, off, none⟩) hBm).trans hm) ?_ hM).mono ?_
    · have hbl := hown.lt
      obtain ⟨es, clock, hb, Ft, hs, hD⟩ := hown
      exact ⟨es, clock, (hb1.block b hbl).trans hb, Ft, hs, hD⟩
    rintro e W2 ⟨⟨v0, rfl⟩, xs, hS, h2⟩
    obtain ⟨v, hv, hrow, hnil⟩ := h2.box
    have hend := run_endLoop (P := Tryz.prog) h2.L (by simp [recG])
    obtain ⟨W3, hW3⟩ : ∃ W3, W2.putObj (W0.heap.size + 1) (.loop { recG fn codeA codeB (.func (.func 109) #[] #[.pointer (some ⟨Bm, off, none⟩)]) w.heap.size W0.heap.size .ready none with state := .exhausted }) = W3 := ⟨_, rfl⟩
    rw [hW3] at hend
    have hg3 : W2.grownBy W3 (some (W0.heap.size + 1)) := by rw [← hW3]; exact grownBy_putObj_a _ _ _
    have hv3 : W3.heap[w.heap.size]? = some (.cells #[v] 84 (0, 0)) := by rw [← hW3]; exact (World.putObj_heap_other (by omega)).trans hv
    have hK3 : W3.heap[W0.heap.size]? = some (.deferred (some [])) := by rw [← hW3]; exact (World.putObj_heap_other (by omega)).trans h2.K
    have hrow3 := hrow.kept hg3 (ownsRow_ne_a hrow h2.L (fun cur e => by cases e))
    have hb3 : Below w.heap.size w W3 := h2.below.grown hg3 h2.below.size (fun k e => by cases e; omega)
    obtain ⟨hc3, hf3⟩ := cell_of_box_a hv3
    clear hW3
    refine ⟨none, W3, hend, ?_⟩
    gi_wp2
    rw [← hs0]
    refine ⟨by simp, .inl ⟨_, _, rfl, run_takeDeferred hK3, ?_⟩⟩
    exact ⟨_, results_tmp rfl _ _ _, v, xs, rfl, hS, hrow3.kept (grownBy_putObj_a _ _ _) (ownsRow_ne_a hrow3 hK3 (fun cur e => by cases e)), hnil, hb3.grown (grownBy_putObj_a _ _ _) hb3.size (fun k e => by cases e; omega)⟩
end Go.Proofs.YtloolljoelngcaaGreat
