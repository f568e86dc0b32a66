/-
  Rows of trees that a reader holds: what putting a tree among a row's kids does. No program in sight.
-/
import Derived.Test.YtldleckgkgeclaaDoorSx0
import Derived.Test.YtldleckgkgeclaaDoorRows
set_option linter.unusedVariables false
set_option linter.unusedSimpArgs false
namespace Go.Proofs.YtldleckgkgeclaaDoor
open Go.RowKit
theorem tree_info : (Tryd.prog.info? 24).map (fun i => (i.zero, i.size, i.bytes)) = some (some (.agg #[.int .i64 0, .string ByteArray.empty, .int .i64 0, .slice none 0 0, .int .i64 0]), 5, 64) := by kernel_rfl
/-- only blocks of X were turned -/
structure Aside (X : Nat → Prop) (w w' : World) : Prop where
  os : w'.os = w.os
  tape : w'.tape = w.tape
  output : w'.output = w.output
  size : w.heap.size ≤ w'.heap.size
  block : ∀ b, b < w.heap.size → ¬ X b → w'.heap[b]? = w.heap[b]?
section
variable {X : Nat → Prop} {w w' w'' : World}
theorem Aside.refl : Aside X w w := ⟨rfl, rfl, rfl, Nat.le_refl _, fun _ _ _ => rfl⟩
theorem Aside.of_below (h : Below w.heap.size w w') : Aside X w w' := ⟨h.os, h.tape, h.output, h.size, fun b hb _ => h.block b hb⟩
theorem Aside.trans (h : Aside X w w') (h' : Aside X w' w'') : Aside X w w'' :=
  ⟨h'.os.trans h.os, h'.tape.trans h.tape, h'.output.trans h.output, Nat.le_trans h.size h'.size, fun b hb hx => (h'.block b (Nat.lt_of_lt_of_le hb h.size) hx).trans (h.block b hb hx)⟩
theorem Aside.mono {Y : Nat → Prop} (h : Aside X w w') (hXY : ∀ b, b < w.heap.size → X b → Y b) : Aside Y w w' := ⟨h.os, h.tape, h.output, h.size, fun b hb hy => h.block b hb fun hx => hy (hXY b hb hx)⟩
theorem Aside.alloc (h : Aside X w w') (o : Obj) : Aside X w (w'.alloc o) := h.trans (.of_below ((Below.refl _ _).alloc (Nat.le_refl _) o))
theorem Aside.drew (h : Aside X w w') : Aside X w w'.drew := h.trans (.of_below (Below.refl _ _).drew)
theorem Aside.setCell (h : Aside X w w') (p : Addr) (u : Value) (hp : p.block < w.heap.size → X p.block) : Aside X w (w'.setCell p u) := by
  have hb := (Below.refl 0 w').setCell (p := p) (Nat.zero_le _) u
  exact ⟨hb.os.trans h.os, hb.tape.trans h.tape, hb.output.trans h.output, Nat.le_trans h.size hb.size, fun b hlt hx => (Below.heap_setCell w' p u b (fun e => hx (e ▸ hp (e ▸ hlt)))).trans (h.block b hlt hx)⟩
theorem Aside.grown {row : Option Nat} (h : Aside X w w') (hg : w'.grownBy w'' row) (hr : ∀ b, row = some b → b < w.heap.size → X b) : Aside X w w'' := by
  have hb := (Below.refl 0 w').grown hg (Nat.zero_le _) (fun _ _ => Nat.zero_le _)
  exact ⟨hb.os.trans h.os, hb.tape.trans h.tape, hb.output.trans h.output, Nat.le_trans h.size hb.size, fun b hlt hx => (hg.block b (Nat.lt_of_lt_of_le hlt h.size) (fun e => hx (hr b e.symm hlt))).trans (h.block b hlt hx)⟩
theorem Aside.below {B : Nat} (h : Aside X w w') (hB : B ≤ w.heap.size) (hX : ∀ b, X b → B ≤ b) : Below B w w' := ⟨h.os, h.tape, h.output, h.size, fun b hb => h.block b (by omega) fun hx => by have := hX b hx; omega⟩
end
/-- a tree was put behind n others in the row at A, whose slice lies at place o of block gO -/
def PutEff (t : TypeId) (w w' : World) (base gO o : Nat) (cur : Array Value) (A : Option Addr) (n : Nat) (qs : List TP) (x : TP) : Prop := ∃ g' cap',
  w'.ownsRow base 24 5 (.slice (some ⟨g', 0, none⟩) (n + 1) cap') (n + 1) (flatT (qs ++ [x])) ∧
  w'.heap[gO]? = some (.cells (cur.setIfInBounds o (.slice (some ⟨g', 0, none⟩) (n + 1) cap')) t (0, 0)) ∧
  Aside (fun b => b = gO ∨ ∃ ad, A = some ad ∧ ad.block = b) w w' ∧
  ((∃ ad, A = some ad ∧ ad.block = g') ∨ w.heap.size ≤ g')
abbrev AddEff := PutEff 24
/-- the last tree of a row of the call's own is put anew -/
theorem own_put_last {w : World} {base : Nat} {e : TypeId} {g cap n : Nat} {qs : List TP} {z : List Value} {x0 x1 x2 x3 x4 : Value} (h : w.ownsRow base e 5 (.slice (some ⟨g, 0, none⟩) (n + 1) cap) (n + 1) (flatT qs ++ z)) (hn : qs.length = n) :
    (((((w.setCell ⟨g, n * 5, none⟩ x0).setCell ⟨g, n * 5 + 1, none⟩ x1).setCell ⟨g, n * 5 + 2, none⟩ x2).setCell ⟨g, n * 5 + 3, none⟩ x3).setCell ⟨g, n * 5 + 4, none⟩ x4).ownsRow base e 5 (.slice (some ⟨g, 0, none⟩) (n + 1) cap) (n + 1) (flatT qs ++ [x0, x1, x2, x3, x4]) := by
  obtain ⟨h1, h2⟩ := h
  have hfl := flatT_len qs
  have hz : z.length = 5 := by rw [List.length_append] at h1; omega
  refine ⟨by rw [List.length_append, hfl]; simp; omega, .inr ?_⟩
  rcases h2 with ⟨h', _⟩ | ⟨g', cap', cur, h', hb, hg, hnc, hcm, hcs, htake⟩
  · simp at h'
  · simp only [Value.slice.injEq, Option.some.injEq, Addr.mk.injEq, and_true, true_and] at h'
    obtain ⟨rfl, rfl⟩ := h'
    refine ⟨g, cap, ((((cur.setIfInBounds (n * 5) x0).setIfInBounds (n * 5 + 1) x1).setIfInBounds (n * 5 + 2) x2).setIfInBounds (n * 5 + 3) x3).setIfInBounds (n * 5 + 4) x4, rfl, hb, Blk.set_ (Blk.set_ (Blk.set_ (Blk.set_ (Blk.set_ hg _ _) _ _) _ _) _ _) _ _, hnc, hcm, by simpa using hcs, ?_⟩
    have hlt : (n + 1) * 5 ≤ cur.size := by rw [hcs]; omega
    apply List.ext_getElem?
    intro i
    have hti := congrArg (fun l => l[i]?) htake
    rcases Nat.lt_or_ge i ((n + 1) * 5) with hi | hi
    · rw [List.getElem?_take_of_lt hi] at hti ⊢
      rw [Array.getElem?_toList] at hti ⊢
      rcases Nat.lt_or_ge i (n * 5) with hi2 | hi2
      · rw [List.getElem?_append_left (by omega)] at hti ⊢
        rw [← hti]
        simp [Array.getElem?_setIfInBounds, show ¬ n * 5 = i by omega, show ¬ n * 5 + 1 = i by omega, show ¬ n * 5 + 2 = i by omega, show ¬ n * 5 + 3 = i by omega, show ¬ n * 5 + 4 = i by omega]
      · obtain ⟨r, rfl⟩ : ∃ r, i = n * 5 + r := ⟨i - n * 5, by omega⟩
        have hr : r < 5 := by omega
        rw [List.getElem?_append_right (by omega), show n * 5 + r - (flatT qs).length = r by omega]
        have hsz : n * 5 + 5 ≤ cur.size := by omega
        match r, hr with
        | 0, _ => simp [Array.getElem?_setIfInBounds, show n * 5 < cur.size by omega]
        | 1, _ => simp [Array.getElem?_setIfInBounds, show n * 5 + 1 < cur.size by omega]
        | 2, _ => simp [Array.getElem?_setIfInBounds, show n * 5 + 2 < cur.size by omega]
        | 3, _ => simp [Array.getElem?_setIfInBounds, show n * 5 + 3 < cur.size by omega]
        | 4, _ => simp [Array.getElem?_setIfInBounds, show n * 5 + 4 < cur.size by omega]
    · rw [List.getElem?_take_eq_none hi, List.getElem?_eq_none (by rw [List.length_append, hfl]; simp; omega)]
theorem own_same {w w' : World} {base n c g : Nat} {e : TypeId} {z : Nat} {xs : List Value} (h : w.ownsRow base e z (.slice (some ⟨g, 0, none⟩) n c) n xs) (hb : w'.heap[g]? = w.heap[g]?) : w'.ownsRow base e z (.slice (some ⟨g, 0, none⟩) n c) n xs := by
  refine ⟨h.1, ?_⟩
  rcases h.2 with hn | ⟨g', cap, cur, e1, hg, hgg, rest⟩
  · exact .inl hn
  · have hgg' : g = g' := by injection e1 with e1; injection e1 with e1; injection e1
    subst hgg'
    exact .inr ⟨g, cap, cur, e1, hg, by rw [hb]; exact hgg, rest⟩
theorem own_len {w : World} {base n : Nat} {e : TypeId} {v : Value} {qs : List TP} (h : w.ownsRow base e 5 v n (flatT qs)) : qs.length = n := by
  have := h.1
  rw [flatT_len] at this
  omega
section
variable {t : TypeId} {w w5 : World} {base gO o g5 cap5 n : Nat} {cur : Array Value} {A : Option Addr} {qs : List TP} {x : TP}
theorem addEff_false (hA : Aside (fun b => ∃ ad, A = some ad ∧ ad.block = b) w w5) (hg : (∃ ad, A = some ad ∧ ad.block = g5) ∨ w.heap.size ≤ g5) (hown : w5.ownsRow base 24 5 (.slice (some ⟨g5, 0, none⟩) (n + 1) cap5) (n + 1) (flatT qs ++ TP.cs x))
    (hgO : w5.heap[gO]? = some (.cells cur t (0, 0))) (hne : g5 ≠ gO) : PutEff t w (w5.setCell ⟨gO, o, none⟩ (.slice (some ⟨g5, 0, none⟩) (n + 1) cap5)) base gO o cur A n qs x := by
  refine ⟨g5, cap5, ?_, Blk.set_ hgO _ _, (hA.mono fun b _ h => .inr h).setCell _ _ (fun _ => .inl rfl), hg⟩
  rw [flatT_append, flatT_one]
  exact own_same hown (Below.heap_setCell w5 ⟨gO, o, none⟩ _ g5 hne)
theorem addEff_true {z : List Value} (hA : Aside (fun b => ∃ ad, A = some ad ∧ ad.block = b) w w5) (hg : (∃ ad, A = some ad ∧ ad.block = g5) ∨ w.heap.size ≤ g5) (hown : w5.ownsRow base 24 5 (.slice (some ⟨g5, 0, none⟩) (n + 1) cap5) (n + 1) (flatT qs ++ z))
    (hgO : w5.heap[gO]? = some (.cells cur t (0, 0))) (hne : g5 ≠ gO) (hq : qs.length = n) :
    PutEff t w ((((((w5.setCell ⟨gO, o, none⟩ (.slice (some ⟨g5, 0, none⟩) (n + 1) cap5)).setCell ⟨g5, n * 5, none⟩ (.int .i64 x.1.k)).setCell ⟨g5, n * 5 + 1, none⟩ (.string x.1.s)).setCell ⟨g5, n * 5 + 2, none⟩ (.int .i64 x.1.n)).setCell ⟨g5, n * 5 + 3, none⟩ (.slice x.2.1 x.1.kids.length x.2.2)).setCell ⟨g5, n * 5 + 4, none⟩ (.int .i64 x.1.at_)) base gO o cur A n qs x := by
  have hx : g5 < w.heap.size → (fun b => b = gO ∨ ∃ ad, A = some ad ∧ ad.block = b) g5 := fun h => by
    rcases hg with h' | h'
    · exact .inr h'
    · omega
  refine ⟨g5, cap5, ?_, ?_, ((((((hA.mono fun b _ h => .inr h).setCell _ _ (fun _ => .inl rfl)).setCell _ _ hx).setCell _ _ hx).setCell _ _ hx).setCell _ _ hx).setCell _ _ hx, hg⟩
  · rw [flatT_append, flatT_one]
    exact own_put_last (own_same hown (Below.heap_setCell w5 ⟨gO, o, none⟩ _ g5 hne)) hq
  · exact (Below.heap_setCell _ ⟨g5, n * 5 + 4, none⟩ _ gO (Ne.symm hne)).trans ((Below.heap_setCell _ ⟨g5, n * 5 + 3, none⟩ _ gO (Ne.symm hne)).trans ((Below.heap_setCell _ ⟨g5, n * 5 + 2, none⟩ _ gO (Ne.symm hne)).trans ((Below.heap_setCell _ ⟨g5, n * 5 + 1, none⟩ _ gO (Ne.symm hne)).trans ((Below.heap_setCell _ ⟨g5, n * 5, none⟩ _ gO (Ne.symm hne)).trans (Blk.set_ hgO _ _)))))
/-- the tree is put first, then the slice -/
theorem putEff_turn {z : List Value} (hA : Aside (fun b => ∃ ad, A = some ad ∧ ad.block = b) w w5) (hg : (∃ ad, A = some ad ∧ ad.block = g5) ∨ w.heap.size ≤ g5) (hown : w5.ownsRow base 24 5 (.slice (some ⟨g5, 0, none⟩) (n + 1) cap5) (n + 1) (flatT qs ++ z))
    (hgO : w5.heap[gO]? = some (.cells cur t (0, 0))) (hne : g5 ≠ gO) (hq : qs.length = n) :
    PutEff t w ((((((w5.setCell ⟨g5, n * 5, none⟩ (.int .i64 x.1.k)).setCell ⟨g5, n * 5 + 1, none⟩ (.string x.1.s)).setCell ⟨g5, n * 5 + 2, none⟩ (.int .i64 x.1.n)).setCell ⟨g5, n * 5 + 3, none⟩ (.slice x.2.1 x.1.kids.length x.2.2)).setCell ⟨g5, n * 5 + 4, none⟩ (.int .i64 x.1.at_)).setCell ⟨gO, o, none⟩ (.slice (some ⟨g5, 0, none⟩) (n + 1) cap5)) base gO o cur A n qs x := by
  have hx : g5 < w.heap.size → (fun b => b = gO ∨ ∃ ad, A = some ad ∧ ad.block = b) g5 := fun h => by
    rcases hg with h' | h'
    · exact .inr h'
    · omega
  refine ⟨g5, cap5, ?_, Blk.set_ ?_ _ _, ((((((hA.mono fun b _ h => .inr h).setCell _ _ hx).setCell _ _ hx).setCell _ _ hx).setCell _ _ hx).setCell _ _ hx).setCell _ _ (fun _ => .inl rfl), hg⟩
  · rw [flatT_append, flatT_one]
    exact own_same (own_put_last hown hq) (Below.heap_setCell _ ⟨gO, o, none⟩ _ g5 hne)
  · exact (Below.heap_setCell _ ⟨g5, n * 5 + 4, none⟩ _ gO (Ne.symm hne)).trans ((Below.heap_setCell _ ⟨g5, n * 5 + 3, none⟩ _ gO (Ne.symm hne)).trans ((Below.heap_setCell _ ⟨g5, n * 5 + 2, none⟩ _ gO (Ne.symm hne)).trans ((Below.heap_setCell _ ⟨g5, n * 5 + 1, none⟩ _ gO (Ne.symm hne)).trans ((Below.heap_setCell _ ⟨g5, n * 5, none⟩ _ gO (Ne.symm hne)).trans hgO))))
end
end Go.Proofs.YtldleckgkgeclaaDoor
