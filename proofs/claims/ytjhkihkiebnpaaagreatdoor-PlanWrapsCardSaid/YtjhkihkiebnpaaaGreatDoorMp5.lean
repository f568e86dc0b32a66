/-
  Package plan: tree.
-/
import Derived.Test.YtjhkihkiebnpaaaGreatDoorMp4
set_option linter.unusedVariables false
set_option linter.unusedSimpArgs false
namespace Go.Proofs.YtjhkihkiebnpaaaGreatDoor
open Go.RowKit
set_option linter.unusedVariables false
set_option linter.unusedSimpArgs false
inductive PFew : P → Prop
  | mk (k : Int) (nm : ByteArray) (ex : List E) (cols left right : List ByteArray) (ag : List Ag) (kids : List P) (l1 : ex.length ≤ 600) (l2 : cols.length ≤ 600) (l3 : left.length ≤ 600) (l4 : right.length ≤ 600) (l5 : ag.length ≤ 600) (l6 : kids.length ≤ 600) (h : ∀ p ∈ kids, PFew p) : PFew (.mk k nm ex cols left right ag kids)
def TreePOk (p : P) : Prop := MadeP p → PFew p → ∀ (a : PA) (w : World), PAt w (fun k => k < w.heap.size) p a → Calls Tryz.prog 32 #[p.val a] w (TreeRet w (treeP p))
theorem one_ok {x : T} {A : Option Addr} {c : Nat} {w : World} {S : Nat → Prop} (hc : x.kids.length ≤ c) (hX : XTK w S A x.kids) : ∀ p ∈ [((x, A, c) : TP)], p.1.kids.length ≤ p.2.2 ∧ XTK w S p.2.1 p.1.kids := fun p hp => by
  rw [List.mem_singleton.1 hp]
  exact ⟨hc, hX⟩
theorem kst_lit {w0 w3 w5 : World} {s : ByteArray} (hb : Below w0.heap.size w0 w3) (h5 : Below (w3.alloc (.cells #[.int .i64 2, .string s, .int .i64 0, .slice none 0 0, .int .i64 0] 71)).heap.size (w3.alloc (.cells #[.int .i64 2, .string s, .int .i64 0, .slice none 0 0, .int .i64 0] 71)) w5) :
    KSt w0 w5.heap.size w3.heap.size (.slice (some ⟨w3.heap.size, 0, none⟩) 1 1) [((.mk 2 s 0 [] 0 : T), none, 0)] (w5.alloc (.cells #[.int .i64 1, .string ⟨#[]⟩, .int .i64 0, .slice (some ⟨w3.heap.size, 0, none⟩) 1 1, .int .i64 0] 71)) := by
  have hs5 := h5.size
  have h3 : w3.heap.size < w5.heap.size := by
    have : (w3.alloc (.cells #[.int .i64 2, .string s, .int .i64 0, .slice none 0 0, .int .i64 0] 71)).heap.size = w3.heap.size + 1 := by simp
    omega
  have hs0 := hb.size
  have hbl : (w5.alloc (.cells #[.int .i64 1, .string ⟨#[]⟩, .int .i64 0, .slice (some ⟨w3.heap.size, 0, none⟩) 1 1, .int .i64 0] 71)).heap[w3.heap.size]? = some (.cells #[.int .i64 2, .string s, .int .i64 0, .slice none 0 0, .int .i64 0] 71 (0, 0)) :=
    (Below.heap_alloc w5 _ _ h3).trans ((h5.block _ (by simp)).trans (heap_alloc_new w3 _))
  refine ⟨heap_alloc_new w5 _, ⟨rfl, .inr ⟨w3.heap.size, 1, _, rfl, Nat.le_refl _, hbl, Nat.le_refl _, by decide, rfl, rfl⟩⟩, leaf_all s _ _, by simp [Value.ownBlock]; omega, ?_, by omega, hs0⟩
  exact ((hb.trans ((box_below w3 _ _).mono hs0)).trans (h5.mono (by simp; omega))).alloc (by omega) _
theorem ps_len2 {ps : List TP} {L : List T} {j : Nat} (h : ps.map Prod.fst = L) (hL : L.length = j) : ps.length = j := by rw [← hL, ← h, List.length_map]
theorem kto_len {α : Type} (f : α → T) (x : T) {l : List α} {n j : Nat} (h : n = l.length) (hj : j ≤ n) : (x :: (l.take j).map f).length = j + 1 := by
  rw [List.length_cons, List.length_map, List.length_take]
  omega
theorem map_snoc {α : Type} (f : α → T) (x : T) {l : List α} {j : Nat} {y : α} (h : l[j]? = some y) : x :: (l.take (j + 1)).map f = (x :: (l.take j).map f) ++ [f y] := by rw [take_snoc h, List.map_append]; rfl
theorem map_all {α : Type} (f : α → T) (x : T) {l : List α} {n j : Nat} (h : n = l.length) (hn : ¬ j < n) : x :: (l.take j).map f = x :: l.map f := by rw [List.take_of_length_le (by omega)]
theorem word_cell {w : World} {s0 s1 s2 s3 s4 s5 s6 s7 : Value} {k : Int} {g : Nat} {t : TypeId} (hb : w.heap[g]? = some (.cells #[.string ⟨#[]⟩, .string ⟨wTable.toArray⟩, .string ⟨wFilter.toArray⟩, .string ⟨wProject.toArray⟩, .string ⟨wJoin.toArray⟩, .string ⟨wUnion.toArray⟩, .string ⟨wDistinct.toArray⟩, .string ⟨wGroup.toArray⟩] t (0, 0))) (h1 : 1 ≤ k) (h7 : k ≤ 7) :
    w.cell? ⟨g, k.toNat, none⟩ = some (.string ⟨(wordK k).toArray⟩) := by
  obtain rfl | rfl | rfl | rfl | rfl | rfl | rfl : k = 1 ∨ k = 2 ∨ k = 3 ∨ k = 4 ∨ k = 5 ∨ k = 6 ∨ k = 7 := by omega
  all_goals (simp [World.cell?, hb]; rfl)
theorem maxl2 {n : Nat} (h : n ≤ 2000) : n + 2 ≤ maxLen := by unfold maxLen; omega
theorem maxl1 {n : Nat} (h : n ≤ 2000) : n + 1 ≤ maxLen := by unfold maxLen; omega
theorem bytes2 {n : Nat} (h : n ≤ 2000) : (n + 2) * 64 ≤ 140737488355328 := by omega
theorem bytes1 {n : Nat} (h : n ≤ 2000) : (n + 1) * 64 ≤ 140737488355328 := by omega
theorem le2k {n j m : Nat} (h : n = j + 1) (hj : j ≤ m) (hm : m ≤ 600) : n ≤ 2000 := by omega
theorem call_list {A : Option Addr} {c n : Nat} {l : List ByteArray} {w : World} (hn : n = l.length) (hl : n ≤ 600) (h : Lies w (fun k => k < w.heap.size) A (strs l)) : Calls Tryz.prog 68 #[.slice A n c] w (TreeRet w (listT l)) := by
  subst hn
  exact list_any l hl A c w h
theorem two_ok {x y : T} {A B : Option Addr} {c d : Nat} {w : World} {S : Nat → Prop} (hc : x.kids.length ≤ c) (hX : XTK w S A x.kids) (hd : y.kids.length ≤ d) (hY : XTK w S B y.kids) : ∀ p ∈ [((x, A, c) : TP), (y, B, d)], p.1.kids.length ≤ p.2.2 ∧ XTK w S p.2.1 p.1.kids := fun p hp => by
  rcases List.mem_cons.1 hp with rfl | hp
  · exact ⟨hc, hX⟩
  · rw [List.mem_singleton.1 hp]
    exact ⟨hd, hY⟩
theorem cols_len {cols : List ByteArray} {ex : List E} (h : cols.length ≤ ex.length) : (colsT cols ex).length = cols.length := by
  unfold colsT
  rw [List.length_zipWith]
  omega
theorem kto_zip {x : T} {cols : List ByteArray} {ex : List E} {cl el j : Nat} (h1 : cl = cols.length) (h2 : el = ex.length) (h : cl ≤ el) (hj : j ≤ cl) : (x :: (colsT cols ex).take j).length = j + 1 := by
  rw [List.length_cons, List.length_take, cols_len (by omega)]
  omega
theorem zip_snoc (x : T) {cols : List ByteArray} {ex : List E} {j : Nat} {c : ByteArray} {e : E} (hc : cols[j]? = some c) (he : ex[j]? = some e) : x :: (colsT cols ex).take (j + 1) = (x :: (colsT cols ex).take j) ++ [.mk 1 ⟨#[]⟩ 0 [.mk 2 c 0 [] 0, treeE e] 0] := by
  rw [take_snoc (x := colT c e) (by unfold colsT; rw [List.getElem?_zipWith, hc, he])]
  rfl
theorem zip_all {wk : ByteArray} {cols : List ByteArray} {ex : List E} {cl el j : Nat} (h1 : cl = cols.length) (h2 : el = ex.length) (h : cl ≤ el) (hn : ¬ j < cl) : (T.mk 2 wk 0 [] 0 :: (colsT cols ex).take j) = .mk 2 wk 0 [] 0 :: colsT cols ex := by
  rw [List.take_of_length_le (by rw [cols_len (by omega)]; omega)]
/-- two trees in one block -/
theorem xtk_two {X Y : TP} {q sz : Nat} {wb wq w6 : World} {t : TypeId} (hq : wq.heap[q]? = some (.cells #[.int .i64 X.1.k, .string X.1.s, .int .i64 X.1.n, .slice X.2.1 X.1.kids.length X.2.2, .int .i64 X.1.at_, .int .i64 Y.1.k, .string Y.1.s, .int .i64 Y.1.n, .slice Y.2.1 Y.1.kids.length Y.2.2, .int .i64 Y.1.at_] t (0, 0)))
    (h6 : w6.heap[q]? = wq.heap[q]?) (hlt : q < w6.heap.size) (hsz : sz ≤ q) (hX : ∀ p ∈ [X], p.1.kids.length ≤ p.2.2 ∧ XTK wb (fun k => sz ≤ k ∧ k < wb.heap.size) p.2.1 p.1.kids) (hcY : Y.1.kids.length ≤ Y.2.2) (hY : XTK wb (fun k => sz ≤ k ∧ k < wb.heap.size) Y.2.1 Y.1.kids) (hb : Below wb.heap.size wb w6) :
    XTK w6 (fun k => sz ≤ k ∧ k < w6.heap.size) (some ⟨q, 0, none⟩) [X.1, Y.1] := by
  have hs := hb.size
  have hk : ∀ {A l}, XTK wb (fun k => sz ≤ k ∧ k < wb.heap.size) A l → XTK w6 (fun k => sz ≤ k ∧ k < w6.heap.size) A l := fun h => (h.kept fun k hk => hb.block k hk.2).mono fun k hk => ⟨hk.1, by have := hk.2; omega⟩
  obtain ⟨hcX, hX⟩ := hX X (List.mem_singleton.2 rfl)
  have hown : w6.ownsRow q t 5 (.slice (some ⟨q, 0, none⟩) 2 2) ([X, Y] : List TP).length (flatT [X, Y]) := ⟨rfl, .inr ⟨q, 2, _, rfl, Nat.le_refl _, h6.trans hq, Nat.le_refl _, by decide, rfl, rfl⟩⟩
  obtain ⟨A, c, e, _, h⟩ := own_trees hown (by simp) (S := fun k => sz ≤ k ∧ k < w6.heap.size) (fun k k1 k2 => ⟨by omega, k2⟩) (two_ok (x := X.1) (A := X.2.1) (c := X.2.2) (y := Y.1) (B := Y.2.1) (d := Y.2.2) hcX (hk hX) hcY (hk hY))
  obtain rfl : A = some ⟨q, 0, none⟩ := by injection e with e; exact e.symm
  exact h
theorem app_snoc {α : Type} (f : α → T) (L : List T) {l : List α} {j : Nat} {y : α} (h : l[j]? = some y) : L ++ (l.take (j + 1)).map f = (L ++ (l.take j).map f) ++ [f y] := by rw [take_snoc h, List.map_append, List.append_assoc]; rfl
theorem app_len {α : Type} {f : α → T} {ps : List TP} {L L' : List T} {l : List α} {n j k : Nat} (h : ps.map Prod.fst = L) (hL : L = L' ++ (l.take j).map f) (hk : L'.length ≤ k) (hn : n = l.length) (hj : j ≤ n) (h6 : n ≤ 600) (hk6 : k ≤ 602 := by decide) : ps.length ≤ 2000 := by
  have := congrArg List.length h
  rw [List.length_map, hL, List.length_append, List.length_map, List.length_take] at this
  omega
theorem flatG_get (l : List Ag) : ∀ (i : Nat) (v : Ag), l[i]? = some v → ∀ j u, (Ag.cs v)[j]? = some u → (flatG l)[i * 3 + j]? = some u := by
  induction l with
  | nil => intro i v h; simp at h
  | cons x l ih =>
    intro i v h j u hj
    have e : flatG (x :: l) = Ag.cs x ++ flatG l := rfl
    have hl : ∀ y : Ag, (Ag.cs y).length = 3 := fun _ => rfl
    have hj3 : j < 3 := by have := (List.getElem?_eq_some_iff.1 hj).1; rw [hl] at this; exact this
    rw [e]
    cases i with
    | zero =>
      obtain rfl : x = v := by simpa using h
      rw [Nat.zero_mul, Nat.zero_add, List.getElem?_append_left (by rw [hl]; exact hj3)]
      exact hj
    | succ i =>
      rw [List.getElem?_append_right (by rw [hl]; omega), hl, show (i + 1) * 3 + j - 3 = i * 3 + j by omega]
      exact ih i v (by simpa using h) j u hj
theorem lies_ag {w : World} {S : Nat → Prop} {A : Option Addr} {l : List Ag} (h : Lies w S A (flatG l)) {j : Nat} {x : Ag} (hx : l[j]? = some x) :
    ∃ b o, A = some ⟨b, o, none⟩ ∧ S b ∧ w.cell? ⟨b, o + j * 3, none⟩ = some (.string x.nm) ∧ w.cell? ⟨b, o + j * 3 + 1, none⟩ = some (.string x.fn) ∧ w.cell? ⟨b, o + j * 3 + 2, none⟩ = some (.string x.col) := by
  rcases h with h | ⟨b, o, hA, hb, hc⟩
  · have := flatG_len l
    rw [h] at this
    have hl : l = [] := List.eq_nil_of_length_eq_zero (by simp at this; omega)
    subst hl
    simp at hx
  · have h0 := hc _ _ (flatG_get l j x hx 0 _ rfl)
    have h1 := hc _ _ (flatG_get l j x hx 1 _ rfl)
    have h2 := hc _ _ (flatG_get l j x hx 2 _ rfl)
    exact ⟨b, o, hA, hb, h0, h1, h2⟩
theorem agg_is {an af ac : ByteArray} (h : af.toList = [99, 111, 117, 110, 116]) : aggL ⟨an, af, ac⟩ = [an, af] := by
  exact if_pos h
theorem agg_no {an af ac : ByteArray} (h : ¬ af.toList = [99, 111, 117, 110, 116]) : aggL ⟨an, af, ac⟩ = [an, af, ac] := by
  exact if_neg h
theorem own_lies2 {w : World} {base : Nat} {e : TypeId} {z b c n : Nat} {vs : List Value} (h : w.ownsRow base e z (.slice (some ⟨b, 0, none⟩) n c) n vs) : Lies w.drew (fun k => k < w.drew.heap.size) (some ⟨b, 0, none⟩) vs := by
  obtain ⟨A, c', e, _, hL⟩ := own_lies h (S := fun k => k < w.heap.size) (fun k h1 h2 => h2)
  obtain rfl : some ⟨b, 0, none⟩ = A := by injection e with e
  exact hL.kept (w' := w.drew) (fun _ _ => rfl)
theorem lies_drew {w : World} {S : Nat → Prop} {A : Option Addr} {vs : List Value} (h : Lies w S A vs) : Lies w.drew S A vs := h.kept (w' := w.drew) (fun _ _ => rfl)
theorem own_le {w : World} {base : Nat} {e : TypeId} {z b c n : Nat} {vs : List Value} (h : w.ownsRow base e z (.slice (some ⟨b, 0, none⟩) n c) n vs) : base ≤ w.heap.size := by
  have := h.lt b rfl
  omega
theorem midP_len {k : Int} {nm : ByteArray} {ex : List E} {cols left right : List ByteArray} {ag : List Ag} {el cl gl : Nat} (h1 : el = ex.length) (h2 : cl = cols.length) (h5 : gl = ag.length) (l1 : el ≤ 600) (l2 : cl ≤ 600) (l5 : gl ≤ 600) (hc : cl ≤ el) : (midP k nm ex cols left right ag).length ≤ 601 := by
  unfold midP
  repeat' split
  all_goals first
    | (rw [cols_len (by omega)]; omega)
    | (simp only [List.length_cons, List.length_map, List.length_nil]; omega)
theorem treeRet_put2 {w w1 wr : World} {A : Option Addr} {c p : Nat} {L : List T} {x0 x1 x2 x3 x4 : Value} (hb : Below w.heap.size w w1) (hr : Below w1.heap.size w1 wr) (hc : L.length ≤ c) (hX : XTK wr (fun k => w1.heap.size ≤ k ∧ k < wr.heap.size) A L) (hp : w.heap.size ≤ p) (hp1 : p < w1.heap.size)
    (hx : x0 = .int .i64 1 ∧ x1 = .string ⟨#[]⟩ ∧ x2 = .int .i64 0 ∧ x3 = .slice A L.length c ∧ x4 = .int .i64 0) : TreeRet w (openT L) (.returned (.agg #[x0, x1, x2, x3, x4])) (put5 wr p x0 x1 x2 x3 x4) := by
  obtain ⟨rfl, rfl, rfl, rfl, rfl⟩ := hx
  have hs := hb.size
  refine ⟨⟨A, c, rfl, hc, ?_⟩, put5_below (hb.trans (hr.mono hs)) hp⟩
  exact (hX.kept (fun k hk => put5_other (by have := hk.1; omega))).mono (fun k hk => ⟨by have := hk.1; omega, by rw [put5_size]; exact hk.2⟩)
theorem seven {k : Int} (h1 : 1 ≤ k) (h7 : k ≤ 7) : k = 1 ∨ k = 2 ∨ k = 3 ∨ k = 4 ∨ k = 5 ∨ k = 6 ∨ k = 7 := by omega
set_option maxRecDepth 100000 in
set_option maxHeartbeats 8000000 in
theorem treeP_step (k : Int) (nm : ByteArray) (ex : List E) (cols left right : List ByteArray) (ag : List Ag) (kids : List P) (hM : ∀ p ∈ kids, TreePOk p) : TreePOk (.mk k nm ex cols left right ag kids) := by
  intro hmade hfew a w hat
  obtain ⟨_, _, _, _, _, _, _, _, hk1, hk7, hex, hcl, hmk⟩ := hmade
  obtain ⟨_, _, _, _, _, _, _, _, l1, l2, l3, l4, l5, l6, hfk⟩ := hfew
  obtain ⟨⟨hE, hC, hLf, hR, hG, _, _, _, _, _⟩, hKd⟩ := hat
  obtain ⟨ea, ec, ca, cc, la, lc, ra, rc, ga, gc, ka, kc⟩ := a
  have htp : treeP (.mk k nm ex cols left right ag kids) = openT (.mk 2 ⟨(wordK k).toArray⟩ 0 [] 0 :: (midP k nm ex cols left right ag ++ treePL kids)) := by rw [treeP, if_neg (by omega)]; rfl
  rw [htp]
  simp only [P.val, P.k, P.nm, P.ex, P.cols, P.left, P.right, P.ag, P.kids] at hE hC hLf hR hG hKd ⊢
  generalize hel : ex.length = el at *
  generalize hcl' : cols.length = cl at *
  generalize hll : left.length = ll at *
  generalize hrl : right.length = rl at *
  generalize hgl : ag.length = gl at *
  generalize hkl : kids.length = kl at *
  obtain ⟨wa, ewa⟩ : ∃ wa, wa = w.alloc (.cells #[.int .i64 k, .string nm, .slice ea el ec, .slice ca cl cc, .slice la ll lc, .slice ra rl rc, .slice ga gl gc, .slice ka kl kc] 27) := ⟨_, rfl⟩
  have hba : Below w.heap.size w wa := by rw [ewa]; exact (Below.refl _ _).alloc (Nat.le_refl _) _
  have hsa : wa.heap.size = w.heap.size + 1 := by rw [ewa]; simp
  have hxa : wa.heap[w.heap.size]? = some (.cells #[.int .i64 k, .string nm, .slice ea el ec, .slice ca cl cc, .slice la ll lc, .slice ra rl rc, .slice ga gl gc, .slice ka kl kc] 27 (0, 0)) := by rw [ewa]; exact heap_alloc_new w _
  obtain ⟨w1, ew1⟩ : ∃ w1, w1 = wa.alloc (.cells #[.int .i64 0, .string ⟨#[]⟩, .int .i64 0, .slice none 0 0, .int .i64 0] 71) := ⟨_, rfl⟩
  have hb1 : Below wa.heap.size wa w1 := by rw [ew1]; exact (Below.refl _ _).alloc (Nat.le_refl _) _
  have hs1' : w1.heap.size = w.heap.size + 1 + 1 := by rw [ew1]; simp; omega
  have HR1 : Hid (w1.heap[w.heap.size + 1]? = some (.cells #[.int .i64 0, .string ⟨#[]⟩, .int .i64 0, .slice none 0 0, .int .i64 0] 71 (0, 0))) := Lib.hid (by rw [ew1, ← hsa]; exact heap_alloc_new wa _)
  have HP1 : Hid (w1.heap[w.heap.size]? = some (.cells #[.int .i64 k, .string nm, .slice ea el ec, .slice ca cl cc, .slice la ll lc, .slice ra rl rc, .slice ga gl gc, .slice ka kl kc] 27 (0, 0))) := Lib.hid ((hb1.block _ (by omega)).trans hxa)
  have HB1 : Hid (Below w.heap.size w w1) := Lib.hid (hba.trans (hb1.mono (by omega)))
  have HW1 := Lib.hid (show w1 = (w.alloc (.cells #[.int .i64 k, .string nm, .slice ea el ec, .slice ca cl cc, .slice la ll lc, .slice ra rl rc, .slice ga gl gc, .slice ka kl kc] 27)).alloc (.cells #[.int .i64 0, .string ⟨#[]⟩, .int .i64 0, .slice none 0 0, .int .i64 0] 71) by rw [ew1, ewa])
  have hs1 : w.heap.size < w1.heap.size := by omega
  have hs0 := hs1
  have hs2 : w.heap.size + 1 < w1.heap.size := by omega
  obtain ⟨w2, ew2⟩ : ∃ w2, w2 = w1.alloc (.cells #[.string ⟨#[]⟩, .string ⟨wTable.toArray⟩, .string ⟨wFilter.toArray⟩, .string ⟨wProject.toArray⟩, .string ⟨wJoin.toArray⟩, .string ⟨wUnion.toArray⟩, .string ⟨wDistinct.toArray⟩, .string ⟨wGroup.toArray⟩] 9) := ⟨_, rfl⟩
  have hb2 : Below w1.heap.size w1 w2 := by rw [ew2]; exact (Below.refl _ _).alloc (Nat.le_refl _) _
  have hwc := Lib.hid (word_cell (k := k) (s0 := undef) (s1 := undef) (s2 := undef) (s3 := undef) (s4 := undef) (s5 := undef) (s6 := undef) (s7 := undef) (show w2.heap[w1.heap.size]? = _ by rw [ew2]; exact heap_alloc_new w1 _) hk1 hk7)
  have HB2 := Lib.hid hb2
  have HW2 := Lib.hid ew2
  have HP2 := Lib.hid ((hb2.block w.heap.size hs0).trans HP1.out)
  have n1 : ¬ k < 1 := by omega
  have n7 : ¬ 7 < k := by omega
  have n8 : k < 8 := by omega
  have n0 : 0 ≤ k := by omega
  have HEX := Lib.hid hex
  have HEL := Lib.hid hel.symm
  have HCL' := Lib.hid hcl'.symm
  have HLL := Lib.hid hll.symm
  have HRL := Lib.hid hrl.symm
  have HGL := Lib.hid hgl.symm
  have HKL := Lib.hid hkl.symm
  have HM := Lib.hid hM
  have HMK := Lib.hid hmk
  have HFK := Lib.hid hfk
  have HE := Lib.hid (hE.to fun k h => h)
  have HCO := Lib.hid hC
  have HLF := Lib.hid hLf
  have HRI := Lib.hid hR
  have HG := Lib.hid hG
  have HKD := Lib.hid hKd
  have HCC := Lib.hid hcl
  obtain ⟨i0, hi, hz0, hz1, hz2⟩ := info_parts tree_info
  clear ewa hba hsa hxa ew1 hb1 hs1' ew2 hb2 htp hex hel hcl' hll hrl hgl hkl hM hmk hfk hE hC hLf hR hG hKd hcl wa
  have hwa := Lib.hid (fun s w => atom_any s w)
  have hwo := Lib.hid (fun A n c w => open_any A n c w)
  obtain ⟨wk, hwk⟩ : ∃ wk, wk = (⟨(wordK k).toArray⟩ : ByteArray) := ⟨_, rfl⟩
  rw [← hwk] at hwc ⊢
  obtain ⟨kt, hkt⟩ : ∃ kt, k.toNat = kt := ⟨_, rfl⟩
  rw [hkt] at hwc
  have HWK := Lib.hid hwk
  clear hwk
  go_enter Tryz.func32, Tryz.ntmps32
  go_upto_region 1 with (fail)
  rw [← HW1.out]
  go_upto_region 2 with (fail)
  simp only [wTable, wFilter, wProject, wJoin, wUnion, wDistinct, wGroup] at HW2
  rw [← HW2.out]
  obtain ⟨d0, d1, d2, d3, d4, d5, d6, d7, _, _, _, _, _, _, _, _⟩ := cell8 HP2.out
  have hwc' := hwc.out
  go_wp2_with fail
  refine (hwa.out wk w2).mono ?_
  rintro e w3 ⟨rfl, hb3⟩
  have HB3 := Lib.hid (HB2.out.trans (hb3.mono HB2.out.size))
  clear hb3
  go_wp2_with fail
  refine (hwo.out _ 1 1 _).mono ?_
  rintro e w5 ⟨rfl, hb5⟩
  have HS := Lib.hid (kst_lit HB3.out hb5)
  have HB35 : Hid (w3.heap.size ≤ w5.heap.size) := Lib.hid (Nat.le_trans (box_below w3 _ _).size hb5.size)
  have HP5 := Lib.hid ((((HB3.out.trans ((box_below w3 _ _).mono HB3.out.size)).trans (hb5.mono (Nat.le_trans HB3.out.size (box_below w3 _ _).size))).block w.heap.size hs0).trans HP1.out)
  clear hb5 d0 d1 d2 d3 d4 d5 d6 d7 hwc' hkt
  obtain ⟨w8, ew8⟩ : ∃ w8, w8 = w5.alloc (.cells #[.int .i64 1, .string ⟨#[]⟩, .int .i64 0, .slice (some ⟨w3.heap.size, 0, none⟩) 1 1, .int .i64 0] 71) := ⟨_, rfl⟩
  rw [← ew8] at HS
  have HW8 := Lib.hid ew8
  clear ew8
  have HP8 := Lib.hid ((HS.out.below.block w.heap.size hs0).trans HP1.out)
  go_upto_region 5 with (fail)
  rw [← HW8.out]
  obtain ⟨d0, d1, d2, d3, d4, d5, d6, d7, _, _, _, _, _, _, _, _⟩ := cell8 HP8.out
  go_upto_block 0 with (fail)
  clear d0 d1 d2 d3 d4 d5 d6 d7
  go_cut [4] (fun s4 wx => s4 = .pointer (some ⟨w5.heap.size, 0, none⟩) ∧ KTo w1 w5.heap.size w3.heap.size (.mk 2 wk 0 [] 0 :: midP k nm ex cols left right ag) wx)
  case first =>
    obtain rfl | rfl | rfl | rfl | rfl | rfl | rfl : k = 1 ∨ k = 2 ∨ k = 3 ∨ k = 4 ∨ k = 5 ∨ k = 6 ∨ k = 7 := seven hk1 hk7
    · obtain ⟨v, ps, hK, hps⟩ : KTo w1 w5.heap.size w3.heap.size [.mk 2 wk 0 [] 0] w8 := ⟨_, _, HS.out, rfl⟩
      have HK := Lib.hid hK
      have HPS := Lib.hid hps
      have hvo := Lib.hid (fun k (e : v.ownBlock = some k) => (HK.out.own.lt k e).2)
      have HBW := Lib.hid (HB1.out.trans (HK.out.below.mono (Nat.le_of_lt hs1)))
      have HBP := Lib.hid ((HK.out.below.block w.heap.size hs0).trans HP1.out)
      clear hK hps
      have hpl := Lib.hid (ps_len2 HPS.out (j := 1) rfl)
      have hpl2 := Lib.hid (show ps.length ≤ 2000 by rw [hpl.out]; decide)
      obtain ⟨d0, d1, d2, d3, d4, d5, d6, d7, _, _, _, _, _, _, _, _⟩ := cell8 HBP.out
      have g0 := (cell5 HK.out.box).1.2.2.2.1
      have HBX := Lib.hid (show Below w8.heap.size w8 w8.drew from (Below.refl _ _).drew)
      have HCL := Lib.hid (hwa.out nm w8.drew)
      go_upto_region 7 with (fail)
      go_region_law (first
        | (refine step_append_lies _ rfl _ _ _ rfl w3.heap.size 71 i0 _ 5 64 Tryz.underlying69 hi hz0 hz1 hz2 rfl (by decide) _ _ _ rfl (HK6.out.own.alloc _) ⟨w6.heap.size, 0, none⟩ 1 1 (TP.cs ((.mk 2 nm 0 [] 0 : T), none, 0)) rfl rfl (World.news_of_block (heap_alloc_new w6 _)) (by rw [← flatT_one]; exact flatT_ones _) (by decide) (maxl1 hpl2.out) (bytes1 hpl2.out) hsz6.out _ rfl ?_; intro g' cap w7 hown7 hgrow hat hlt7
           have HO7 := Lib.hid hown7
           have HG7 : Hid (w6.grownBy w7 v.ownBlock) := Lib.hid ((World.grownBy_alloc _ _ _).trans hgrow)
           have hat7 : Hid ((Value.slice (some ⟨g', 0, none⟩) (ps.length + 1) cap).ownBlock = v.ownBlock ∨ ∃ n, (Value.slice (some ⟨g', 0, none⟩) (ps.length + 1) cap).ownBlock = some n ∧ w6.heap.size ≤ n) := Lib.hid (hat.imp (fun h => h.symm) fun h => ⟨g', rfl, by rw [h]; exact (box_below w6 _ _).size⟩)
           have HE7 := Lib.hid ((HG7.out.block w5.heap.size HK6.out.lt (fun e => HK6.out.notb e.symm)).trans HK6.out.box)
           obtain ⟨⟨p0, p1, p2, p3, p4⟩, q0, q1, q2, q3, q4⟩ := cell5 HE7.out
           clear hown7 hgrow hat)
        | (go_simp; go_at_call 66; refine (HCL.out).mono ?_; rintro e w6 ⟨rfl, hb6⟩
           have HK6 := Lib.hid (HK.out.bel (HBX.out.trans (hb6.mono HBX.out.size)))
           have hsz6 : Hid (w3.heap.size ≤ (w6.alloc (.cells #[.int .i64 2, .string nm, .int .i64 0, .slice none 0 0, .int .i64 0] 71)).heap.size) := Lib.hid (Nat.le_trans (Nat.le_trans HB35.out (Nat.le_of_lt HK6.out.lt)) (box_below w6 _ _).size)
           have g3 : w6.cell? ⟨w5.heap.size, 3, none⟩ = some v := (cell5 HK6.out.box).1.2.2.2.1
           have g3b : (w6.alloc (.cells #[.int .i64 2, .string nm, .int .i64 0, .slice none 0 0, .int .i64 0] 71)).cell? ⟨w5.heap.size, 3, none⟩ = some v := (World.cell?_alloc_some _ _ _ (by rw [g3]; rfl)).trans g3
           clear hb6))
      all_goals
        go_wp2_with fail
        go_meet
        case rel => exact ⟨rfl, _, _, HK6.out.step (xs := [((.mk 2 nm 0 [] 0 : T), none, 0)]) (sz := w8.heap.size) HG7.out (by rw [flatT_one]; exact HO7.out) hat7.out (leaf_all nm _ _) (Nat.le_trans HB35.out (Nat.le_of_lt HK.out.lt)) HK.out.lt hvo.out, by rw [List.map_append, HPS.out]; rfl⟩
    · obtain ⟨d0, d1, d2, d3, d4, d5, d6, d7, _, _, _, _, _, _, _, _⟩ := cell8 HP8.out
      go_wp2_with fail
      go_loopw [49] (fun i wr => ∃ j : Nat, j ≤ el ∧ i = .int .i64 j ∧ KTo w1 w5.heap.size w3.heap.size (.mk 2 wk 0 [] 0 :: (ex.take j).map treeE) wr) (fun i _ => el - (intOf i).toNat)
      case atStart => exact ⟨0, Nat.zero_le _, rfl, _, _, HS.out, rfl⟩
      case round =>
        obtain ⟨j, hj, rfl, v, ps, hK, hps⟩ := hrel
        have HK := Lib.hid hK
        have HPS := Lib.hid hps
        have hvo := Lib.hid (fun k (e : v.ownBlock = some k) => (HK.out.own.lt k e).2)
        have HBW := Lib.hid (HB1.out.trans (HK.out.below.mono (Nat.le_of_lt hs1)))
        have HBP := Lib.hid ((HK.out.below.block w.heap.size hs0).trans HP1.out)
        clear hK hps
        have hpl := Lib.hid (ps_len2 HPS.out (kto_len treeE _ HEL.out hj))
        have hpl2 := Lib.hid (le2k hpl.out hj l1)
        by_cases hlt : j < el
        · obtain ⟨x, hx⟩ := get_some HEL.out hlt
          obtain ⟨b, o, A', c', rfl, hbl2, c0, c1, c2, c3, hKx⟩ := EKids.get_ HE.out wr HBW.out j x hx
          have htk := Lib.hid (map_snoc treeE (.mk 2 wk 0 [] 0) hx)
          obtain ⟨wx, ewx⟩ : ∃ wx, wx = wr.alloc (.cells #[.int .i64 x.k, .string x.s, .int .i64 x.n, .slice A' x.kids.length c'] 38) := ⟨_, rfl⟩
          have hbx : Below wr.heap.size wr wx := by rw [ewx]; exact (Below.refl _ _).alloc (Nat.le_refl _) _
          have hnx : wx.heap[wr.heap.size]? = some (.cells #[.int .i64 x.k, .string x.s, .int .i64 x.n, .slice A' x.kids.length c'] 38 (0, 0)) := by rw [ewx]; exact heap_alloc_new wr _
          have HCL := Lib.hid (tree_any x (HEX.out x (List.mem_of_getElem? hx)) A' c' wx.drew ((hKx.low hbx.drew).more hbx.drew.size))
          have HBX : Hid (Below wr.heap.size wr wx.drew) := Lib.hid hbx.drew
          have g0 := (cell5 (HK.out.bel hbx).box).1.2.2.2.1
          have HWX := Lib.hid ewx
          obtain ⟨⟨n0', n1', n2', n3'⟩, _, _, _, _⟩ := cell4 hnx
          obtain ⟨y, hy⟩ : ∃ y, y = treeE x := ⟨_, rfl⟩
          rw [← hy] at HCL htk
          clear ewx hbx hnx hx hKx hy
          obtain ⟨xk, xs, xn, xl⟩ := x
          obtain ⟨tk, ts, tn, tl, ta⟩ := y
          simp only [E.val, E.k, E.s, E.n, E.kids, T.val, T.k, T.s, T.n, T.kids, T.at_] at c0 c1 c2 c3 HCL HWX n0' n1' n2' n3'
          generalize xl.length = xm at *
          go_upto_region 12 with (fail)
          rw [← HWX.out]
          go_region_law (first
            | (refine step_append_lies _ rfl _ _ _ rfl w3.heap.size 71 i0 _ 5 64 Tryz.underlying69 hi hz0 hz1 hz2 rfl (by decide) _ _ _ rfl (HK6.out.own.alloc _) ⟨w6.heap.size, 0, none⟩ 1 1 (TP.cs ((.mk tk ts tn tl ta : T), A6, c6)) rfl rfl (World.news_of_block (heap_alloc_new w6 _)) (by rw [← flatT_one]; exact flatT_ones _) (by decide) (maxl1 hpl2.out) (bytes1 hpl2.out) hsz6.out _ rfl ?_; intro g' cap w7 hown7 hgrow hat hlt7
               have HO7 := Lib.hid hown7
               have HG7 : Hid (w6.grownBy w7 v.ownBlock) := Lib.hid ((World.grownBy_alloc _ _ _).trans hgrow)
               have hat7 : Hid ((Value.slice (some ⟨g', 0, none⟩) (ps.length + 1) cap).ownBlock = v.ownBlock ∨ ∃ n, (Value.slice (some ⟨g', 0, none⟩) (ps.length + 1) cap).ownBlock = some n ∧ w6.heap.size ≤ n) := Lib.hid (hat.imp (fun h => h.symm) fun h => ⟨g', rfl, by rw [h]; exact (box_below w6 _ _).size⟩)
               have HE7 := Lib.hid ((HG7.out.block w5.heap.size HK6.out.lt (fun e => HK6.out.notb e.symm)).trans HK6.out.box)
               obtain ⟨⟨p0, p1, p2, p3, p4⟩, q0, q1, q2, q3, q4⟩ := cell5 HE7.out
               clear hown7 hgrow hat)
            | (go_simp; go_at_call 67; refine (HCL.out).mono ?_; rintro e w6 ⟨⟨A6, c6, rfl, hc6, hX6⟩, hb6⟩
               simp only [T.val, T.k, T.s, T.n, T.kids, T.at_]
               have HK6 := Lib.hid (HK.out.bel (HBX.out.trans (hb6.mono HBX.out.size)))
               have hsz6 : Hid (w3.heap.size ≤ (w6.alloc (.cells #[.int .i64 tk, .string ts, .int .i64 tn, .slice A6 tl.length c6, .int .i64 ta] 71)).heap.size) := Lib.hid (Nat.le_trans (Nat.le_trans HB35.out (Nat.le_of_lt HK6.out.lt)) (box_below w6 _ _).size)
               have g3 : w6.cell? ⟨w5.heap.size, 3, none⟩ = some v := (cell5 HK6.out.box).1.2.2.2.1
               have g3b : (w6.alloc (.cells #[.int .i64 tk, .string ts, .int .i64 tn, .slice A6 tl.length c6, .int .i64 ta] 71)).cell? ⟨w5.heap.size, 3, none⟩ = some v := (World.cell?_alloc_some _ _ _ (by rw [g3]; rfl)).trans g3
               have HX6 := Lib.hid hX6
               have HC6 := Lib.hid hc6
               clear hX6 hc6
               clear hb6))
          all_goals
            go_wp2_with fail
            go_roundw
            case measure => exact meas_j hlt
            case rel => exact ⟨j + 1, hlt, by simp, _, _, HK6.out.step (xs := [((.mk tk ts tn tl ta : T), A6, c6)]) (sz := wr.heap.size) HG7.out (by rw [flatT_one]; exact HO7.out) hat7.out (one_ok HC6.out (HX6.out.mono fun k hk => ⟨Nat.le_trans HBX.out.size hk.1, hk.2⟩)) (Nat.le_trans HB35.out (Nat.le_of_lt HK.out.lt)) HK.out.lt hvo.out, by rw [List.map_append, HPS.out, htk.out]; rfl⟩
        · go_wp2_with fail
          go_meet
          case rel => exact ⟨rfl, v, ps, HK.out, by rw [HPS.out, map_all treeE _ HEL.out hlt]; rfl⟩
    · obtain ⟨d0, d1, d2, d3, d4, d5, d6, d7, _, _, _, _, _, _, _, _⟩ := cell8 HP8.out
      go_wp2_with fail
      go_loopw [66] (fun i wr => ∃ j : Nat, j ≤ cl ∧ i = .int .i64 j ∧ KTo w1 w5.heap.size w3.heap.size (.mk 2 wk 0 [] 0 :: (colsT cols ex).take j) wr) (fun i _ => cl - (intOf i).toNat)
      case atStart => exact ⟨0, Nat.zero_le _, rfl, _, _, HS.out, rfl⟩
      case round =>
        obtain ⟨j, hj, rfl, v, ps, hK, hps⟩ := hrel
        have HK := Lib.hid hK
        have HPS := Lib.hid hps
        have hvo := Lib.hid (fun k (e : v.ownBlock = some k) => (HK.out.own.lt k e).2)
        have HBW := Lib.hid (HB1.out.trans (HK.out.below.mono (Nat.le_of_lt hs1)))
        have HBP := Lib.hid ((HK.out.below.block w.heap.size hs0).trans HP1.out)
        clear hK hps
        have hpl := Lib.hid (ps_len2 HPS.out (kto_zip HCL'.out HEL.out HCC.out hj))
        have hpl2 := Lib.hid (le2k hpl.out hj l2)
        by_cases hlt : j < cl
        · obtain ⟨c, hcx⟩ := get_some HCL'.out hlt
          obtain ⟨bC, oC, rfl, hbC, hcellC⟩ := HCO.out.at_ hcx
          have hcw : wr.cell? ⟨bC, oC + j, none⟩ = some (.string c) := (HBW.out.cell hbC).trans hcellC
          have hje : j < el := Nat.lt_of_lt_of_le hlt HCC.out
          obtain ⟨x, hx⟩ := get_some HEL.out hje
          obtain ⟨b, o, A', c', rfl, hbl2, c0, c1, c2, c3, hKx⟩ := EKids.get_ HE.out wr HBW.out j x hx
          have htk := Lib.hid (zip_snoc (.mk 2 wk 0 [] 0) hcx hx)
          have HTR := Lib.hid (fun w' (h : Below wr.heap.size wr w') => tree_any x (HEX.out x (List.mem_of_getElem? hx)) A' c' w' ((hKx.low h).more h.size))
          have HALL : Hid (∀ w', Below wr.heap.size wr w' → w'.cell? ⟨w5.heap.size, 3, none⟩ = some v ∧ w'.cell? ⟨w.heap.size, 2, none⟩ = some (.slice (some ⟨b, o, none⟩) el ec) ∧ w'.cell? ⟨b, o + j * 4, none⟩ = some (.int .i64 x.k) ∧ w'.cell? ⟨b, o + j * 4 + 1, none⟩ = some (.string x.s) ∧ w'.cell? ⟨b, o + j * 4 + 2, none⟩ = some (.int .i64 x.n) ∧ w'.cell? ⟨b, o + j * 4 + 3, none⟩ = some (.slice A' x.kids.length c')) :=
            Lib.hid fun w' h => ⟨(cell5 (HK.out.bel h).box).1.2.2.2.1, (cell8 ((h.block _ (Nat.lt_of_lt_of_le hs0 HK.out.below.size)).trans HBP.out)).c2, (h.cell (Nat.lt_of_lt_of_le hbl2 HBW.out.size)).trans c0, (h.cell (Nat.lt_of_lt_of_le hbl2 HBW.out.size)).trans c1, (h.cell (Nat.lt_of_lt_of_le hbl2 HBW.out.size)).trans c2, (h.cell (Nat.lt_of_lt_of_le hbl2 HBW.out.size)).trans c3⟩
          have d2 := (cell8 HBP.out).c2
          obtain ⟨y, hy⟩ : ∃ y, y = treeE x := ⟨_, rfl⟩
          rw [← hy] at HTR htk
          clear hcx hcellC hx hKx c0 c1 c2 c3 hy
          obtain ⟨xk, xs, xn, xl⟩ := x
          obtain ⟨tk, ts, tn, tl, ta⟩ := y
          simp only [E.val, E.k, E.s, E.n, E.kids] at HALL HTR
          generalize xl.length = xm at *
          go_upto_region 19 with (fail)
          refine LateKit.wp_region_last (fun w' => Below wr.heap.size wr w') [13, 14, 15] (by kernel_rfl) ((Below.refl _ _).drew) (fun hHeld => ?_)
          refine LateKit.wpAnyK_take (i := 0) (v := .pointer (some ⟨w5.heap.size, 3, none⟩)) (C := [0, 1, 13, 14, 15]) rfl (by kernel_rfl) (by kernel_rfl) (by kernel_rfl) (by kernel_rfl) (fun _ _ _ h => h) (Or.inl ⟨by rfl, fun w1' hSw => by (go_simp)⟩) (by assumption) ?_
          simp only [List.getElem_toArray, List.getElem_cons_zero, Act.put, List.setIfInBounds_toArray, List.set_cons_zero, List.set_cons_succ]
          refine LateKit.wpAnyK_take (i := 1) (v := v) (C := [1, 13, 14, 15]) rfl (by kernel_rfl) (by kernel_rfl) (by kernel_rfl) (by kernel_rfl) (fun _ _ _ h => h) (Or.inl ⟨by rfl, fun w1' hSw => by (obtain ⟨r1, r2, r3, r4, r5, r6⟩ := HALL.out _ hSw; go_simp)⟩) (by assumption) ?_
          simp only [List.getElem_toArray, List.getElem_cons_succ, List.getElem_cons_zero, Act.put, List.setIfInBounds_toArray, List.set_cons_zero, List.set_cons_succ]
          refine LateKit.wpAnyK_take (i := 2) (v := .string c) (C := [2, 3, 10, 11, 12, 13, 14, 15]) rfl (by kernel_rfl) (by kernel_rfl) (by kernel_rfl) (by kernel_rfl) (fun _ _ _ h => h) (Or.inl ⟨by rfl, fun w1' hSw => by (go_simp)⟩) (by assumption) ?_
          simp only [List.getElem_toArray, List.getElem_cons_succ, List.getElem_cons_zero, Act.put, List.setIfInBounds_toArray, List.set_cons_zero, List.set_cons_succ]
          refine LateKit.wpAnyK_take (i := 4) (v := .pointer (some ⟨w.heap.size, 2, none⟩)) (C := [4, 5, 7, 8, 9, 10, 11, 12, 13, 14, 15]) rfl (by kernel_rfl) (by kernel_rfl) (by kernel_rfl) (by kernel_rfl) (fun _ _ _ h => h) (Or.inl ⟨by rfl, fun w1' hSw => by (go_simp)⟩) (by assumption) ?_
          simp only [List.getElem_toArray, List.getElem_cons_succ, List.getElem_cons_zero, Act.put, List.setIfInBounds_toArray, List.set_cons_zero, List.set_cons_succ]
          refine LateKit.wpAnyK_take (i := 5) (v := .slice (some ⟨b, o, none⟩) el ec) (C := [5, 7, 8, 9, 10, 11, 12, 13, 14, 15]) rfl (by kernel_rfl) (by kernel_rfl) (by kernel_rfl) (by kernel_rfl) (fun _ _ _ h => h) (Or.inl ⟨by rfl, fun w1' hSw => by (obtain ⟨r1, r2, r3, r4, r5, r6⟩ := HALL.out _ hSw; go_simp)⟩) (by assumption) ?_
          simp only [List.getElem_toArray, List.getElem_cons_succ, List.getElem_cons_zero, Act.put, List.setIfInBounds_toArray, List.set_cons_zero, List.set_cons_succ]
          refine LateKit.wpAnyK_take (i := 6) (v := .int .i64 j) (C := [6, 7, 8, 9, 10, 11, 12, 13, 14, 15]) rfl (by kernel_rfl) (by kernel_rfl) (by kernel_rfl) (by kernel_rfl) (fun _ _ _ h => h) (Or.inl ⟨by rfl, fun w1' hSw => by (go_simp)⟩) (by assumption) ?_
          simp only [List.getElem_toArray, List.getElem_cons_succ, List.getElem_cons_zero, Act.put, List.setIfInBounds_toArray, List.set_cons_zero, List.set_cons_succ]
          refine LateKit.wpAnyK_take (i := 7) (v := .pointer (some ⟨b, o + j * 4, none⟩)) (C := [7, 8, 9, 10, 11, 12, 13, 14, 15]) rfl (by kernel_rfl) (by kernel_rfl) (by kernel_rfl) (by kernel_rfl) (fun _ _ _ h => h) (Or.inl ⟨by rfl, fun w1' hSw => by (go_simp)⟩) (by assumption) ?_
          simp only [List.getElem_toArray, List.getElem_cons_succ, List.getElem_cons_zero, Act.put, List.setIfInBounds_toArray, List.set_cons_zero, List.set_cons_succ]
          refine LateKit.wpAnyK_take (i := 8) (v := (.agg #[.int .i64 xk, .string xs, .int .i64 xn, .slice A' xm c'])) (C := [8, 9, 10, 11, 12, 13, 14, 15]) rfl (by kernel_rfl) (by kernel_rfl) (by kernel_rfl) (by kernel_rfl) (fun _ _ _ h => h) (Or.inl ⟨by rfl, fun w1' hSw => by (obtain ⟨r1, r2, r3, r4, r5, r6⟩ := HALL.out _ hSw; go_simp)⟩) (by assumption) ?_
          simp only [List.getElem_toArray, List.getElem_cons_succ, List.getElem_cons_zero, Act.put, List.setIfInBounds_toArray, List.set_cons_zero, List.set_cons_succ]
          refine LateKit.wpAnyK_ready (rs := [3]) (by kernel_rfl) (by simp) ?_
          refine LateKit.AllReadyK.cons rfl (fun K hK => ?_) LateKit.AllReadyK.nil
          simp only [List.getElem_toArray, List.getElem_cons_succ, List.getElem_cons_zero]
          go_simp
          refine (hwa.out c wr.drew).mono ?_
          rintro e wa ⟨rfl, hbwa⟩
          go_wp2_with fail
          refine hK.out _ _ (((Below.refl wr.heap.size wr).drew).trans hbwa) (fun hHeld => ?_)
          clear hK K
          refine LateKit.wpAnyK_ready (rs := [9]) (by kernel_rfl) (by simp) ?_
          refine LateKit.AllReadyK.cons rfl (fun K hK => ?_) LateKit.AllReadyK.nil
          simp only [List.getElem_toArray, List.getElem_cons_succ, List.getElem_cons_zero]
          go_simp
          refine (HTR.out wa (((Below.refl wr.heap.size wr).drew).trans hbwa)).mono ?_
          rintro e wb ⟨⟨A7, c7, rfl, hc7, hX7⟩, hbwb⟩
          simp only [T.val, T.k, T.s, T.n, T.kids, T.at_]
          go_wp2_with fail
          have HB8 : Hid (Below wr.heap.size wr wb) := Lib.hid ((((Below.refl wr.heap.size wr).drew).trans hbwa).trans (hbwb.mono hbwa.size))
          have HXR := Lib.hid (hX7.mono fun k hk => (⟨Nat.le_trans hbwa.size hk.1, hk.2⟩ : wr.drew.heap.size ≤ k ∧ k < wb.heap.size))
          have HC7 := Lib.hid hc7
          refine hK.out _ _ HB8.out (fun hHeld => ?_)
          clear hK K hX7 hc7 hbwa hbwb
          refine LateKit.wpAnyK_ready (rs := [10]) (by kernel_rfl) (by simp) ?_
          refine LateKit.AllReadyK.cons rfl (fun K hK => ?_) LateKit.AllReadyK.nil
          simp only [List.getElem_toArray, List.getElem_cons_succ, List.getElem_cons_zero]
          go_simp
          obtain ⟨wq, hwq⟩ : ∃ wq, wq = wb.alloc (.cells #[.int .i64 2, .string c, .int .i64 0, .slice none 0 0, .int .i64 0, .int .i64 tk, .string ts, .int .i64 tn, .slice A7 tl.length c7, .int .i64 ta] 71) := ⟨_, rfl⟩
          rw [← hwq]
          have HBQ : Hid (Below wb.heap.size wb wq) := Lib.hid (by rw [hwq]; exact box_below _ _ _)
          have HQ : Hid (wq.heap[wb.heap.size]? = some (.cells #[.int .i64 2, .string c, .int .i64 0, .slice none 0 0, .int .i64 0, .int .i64 tk, .string ts, .int .i64 tn, .slice A7 tl.length c7, .int .i64 ta] 71 (0, 0))) := Lib.hid (by rw [hwq]; exact heap_alloc_new wb _)
          clear hwq
          refine hK.out _ _ (HB8.out.trans (HBQ.out.mono HB8.out.size)) (fun hHeld => ?_)
          clear hK K
          refine LateKit.wpAnyK_ready (rs := [11]) (by kernel_rfl) (by simp) ?_
          refine LateKit.AllReadyK.cons rfl (fun K hK => ?_) LateKit.AllReadyK.nil
          simp only [List.getElem_toArray, List.getElem_cons_succ, List.getElem_cons_zero]
          go_simp
          refine (hwo.out (some ⟨wb.heap.size, 0, none⟩) 2 2 wq).mono ?_
          rintro e w6 ⟨rfl, hb6⟩
          go_wp2_with fail
          have HB6 : Hid (Below wr.heap.size wr w6) := Lib.hid ((HB8.out.trans (HBQ.out.mono HB8.out.size)).trans (hb6.mono (Nat.le_trans HB8.out.size HBQ.out.size)))
          have HXI := Lib.hid (xtk_two (X := ((.mk 2 c 0 [] 0 : T), none, 0)) (Y := ((.mk tk ts tn tl ta : T), A7, c7)) HQ.out (hb6.block _ (Array.getElem?_eq_some_iff.1 HQ.out).1) (Nat.lt_of_lt_of_le (Array.getElem?_eq_some_iff.1 HQ.out).1 hb6.size) HB8.out.size (leaf_all c wb _) HC7.out (HXR.out) (HBQ.out.trans (hb6.mono HBQ.out.size)))
          have HK6 := Lib.hid (HK.out.bel HB6.out)
          refine hK.out _ _ HB6.out (fun hHeld => ?_)
          clear hK K hb6
          refine LateKit.wpAnyK_ready (rs := [12]) (by kernel_rfl) (by simp) ?_
          refine LateKit.AllReadyK.cons rfl (fun K hK => ?_) LateKit.AllReadyK.nil
          simp only [List.getElem_toArray, List.getElem_cons_succ, List.getElem_cons_zero]
          go_simp
          refine hK.out _ _ (HB6.out.alloc HB6.out.size _) (fun hHeld => ?_)
          clear hK K
          refine LateKit.wpAnyK_ready (rs := [13]) (by kernel_rfl) (by simp) ?_
          refine LateKit.AllReadyK.late (by decide) rfl (fun K hK => ?_) LateKit.AllReadyK.nil
          refine step_append_lies _ rfl _ _ _ rfl w3.heap.size 71 i0 _ 5 64 Tryz.underlying69 hi hz0 hz1 hz2 rfl (by decide) _ _ _ rfl (HK6.out.own.alloc _) ⟨w6.heap.size, 0, none⟩ 1 1 [.int .i64 1, .string ⟨#[]⟩, .int .i64 0, .slice (some ⟨wb.heap.size, 0, none⟩) 2 2, .int .i64 0] rfl rfl (World.news_of_block (heap_alloc_new w6 _)) (flatT_ones [((.mk 1 ⟨#[]⟩ 0 [.mk 2 c 0 [] 0, .mk tk ts tn tl ta] 0 : T), some ⟨wb.heap.size, 0, none⟩, 2)]) (by decide) (maxl1 hpl2.out) (bytes1 hpl2.out) (Nat.le_trans (Nat.le_trans (Nat.le_trans HB35.out (Nat.le_of_lt HK.out.lt)) HB6.out.size) (box_below w6 _ _).size) _ rfl ?_
          intro g' cap w7 hown7 hgrow hat hlt7
          have HO7 := Lib.hid hown7
          have HG7 : Hid (w6.grownBy w7 v.ownBlock) := Lib.hid ((World.grownBy_alloc _ _ _).trans hgrow)
          have hat7 : Hid ((Value.slice (some ⟨g', 0, none⟩) (ps.length + 1) cap).ownBlock = v.ownBlock ∨ ∃ n, (Value.slice (some ⟨g', 0, none⟩) (ps.length + 1) cap).ownBlock = some n ∧ w6.heap.size ≤ n) := Lib.hid (hat.imp (fun h => h.symm) fun h => ⟨g', rfl, by rw [h]; exact (box_below w6 _ _).size⟩)
          have HE7 := Lib.hid ((HG7.out.block w5.heap.size HK6.out.lt (fun e => HK6.out.notb e.symm)).trans HK6.out.box)
          obtain ⟨⟨p0, p1, p2, p3, p4⟩, q0, q1, q2, q3, q4⟩ := cell5 HE7.out
          clear hown7 hgrow hat
          refine hK.out _ _ ?_
          clear hK K
          simp only [List.getElem_toArray, List.getElem_cons_succ, List.getElem_cons_zero, Act.put, List.setIfInBounds_toArray, List.set_cons_zero, List.set_cons_succ]
          refine LateKit.wpAnyK_ready (rs := [14]) (by kernel_rfl) (by simp) ?_
          refine LateKit.AllReadyK.late (by decide) rfl (fun K hK => ?_) LateKit.AllReadyK.nil
          simp only [List.getElem_toArray, List.getElem_cons_succ, List.getElem_cons_zero]
          go_simp
          refine hK.out _ _ ?_
          clear hK K
          refine LateKit.wpAnyK_ready (rs := [15]) (by kernel_rfl) (by simp) ?_
          refine LateKit.AllReadyK.late (by decide) rfl (fun K hK => ?_) LateKit.AllReadyK.nil
          simp only [List.getElem_toArray, List.getElem_cons_succ, List.getElem_cons_zero]
          go_simp
          refine hK.out _ _ ?_
          clear hK K
          refine LateKit.wpAnyK_done (by kernel_rfl) ?_ _
          go_wp2_with fail
          go_roundw
          case measure => exact meas_j hlt
          case rel => exact ⟨j + 1, hlt, by simp, _, _, HK6.out.step (xs := [((.mk 1 ⟨#[]⟩ 0 [.mk 2 c 0 [] 0, .mk tk ts tn tl ta] 0 : T), some ⟨wb.heap.size, 0, none⟩, 2)]) (sz := wr.heap.size) HG7.out HO7.out hat7.out (one_ok (by simp [T.kids]) HXI.out) (Nat.le_trans HB35.out (Nat.le_of_lt HK.out.lt)) HK.out.lt hvo.out, by rw [List.map_append, HPS.out, htk.out]; rfl⟩
        · have he := Lib.hid (zip_all HCL'.out HEL.out HCC.out hlt (wk := wk))
          go_wp2_with fail
          go_meet
          case rel => exact ⟨rfl, v, ps, HK.out, by rw [HPS.out, he.out]; rfl⟩
    · obtain ⟨v, ps, hK, hps⟩ : KTo w1 w5.heap.size w3.heap.size [.mk 2 wk 0 [] 0] w8 := ⟨_, _, HS.out, rfl⟩
      have HK := Lib.hid hK
      have HPS := Lib.hid hps
      have hvo := Lib.hid (fun k (e : v.ownBlock = some k) => (HK.out.own.lt k e).2)
      have HBW := Lib.hid (HB1.out.trans (HK.out.below.mono (Nat.le_of_lt hs1)))
      have HBP := Lib.hid ((HK.out.below.block w.heap.size hs0).trans HP1.out)
      clear hK hps
      have hpl := Lib.hid (ps_len2 HPS.out (j := 1) rfl)
      have hpl2 := Lib.hid (show ps.length ≤ 2000 by rw [hpl.out]; decide)
      have HALL : Hid (∀ w', Below w8.heap.size w8 w' → w'.cell? ⟨w5.heap.size, 3, none⟩ = some v ∧ w'.cell? ⟨w.heap.size, 4, none⟩ = some (.slice la ll lc) ∧ w'.cell? ⟨w.heap.size, 5, none⟩ = some (.slice ra rl rc)) := Lib.hid fun w' h => ⟨(cell5 (HK.out.bel h).box).1.2.2.2.1, (cell8 ((h.block _ (Nat.lt_of_lt_of_le hs0 HK.out.below.size)).trans HBP.out)).c4, (cell8 ((h.block _ (Nat.lt_of_lt_of_le hs0 HK.out.below.size)).trans HBP.out)).c5⟩
      have HC1 : Hid (∀ w', Below w8.heap.size w8 w' → Calls Tryz.prog 68 #[.slice la ll lc] w' (TreeRet w' (listT left))) := Lib.hid fun w' h => call_list HLL.out l3 ((HLF.out.kept fun k hk => (HBW.out.trans (h.mono HBW.out.size)).block k hk).mono fun k hk => Nat.lt_of_lt_of_le hk (HBW.out.trans (h.mono HBW.out.size)).size)
      have HC2 : Hid (∀ w', Below w8.heap.size w8 w' → Calls Tryz.prog 68 #[.slice ra rl rc] w' (TreeRet w' (listT right))) := Lib.hid fun w' h => call_list HRL.out l4 ((HRI.out.kept fun k hk => (HBW.out.trans (h.mono HBW.out.size)).block k hk).mono fun k hk => Nat.lt_of_lt_of_le hk (HBW.out.trans (h.mono HBW.out.size)).size)
      have hmid : Hid (midP 4 nm ex cols left right ag = [listT left, listT right]) := Lib.hid rfl
      generalize listT left = yl at *
      generalize listT right = yr at *
      obtain ⟨lk, ls, ln, lt, lo⟩ := yl
      obtain ⟨rk, rs, rn, rt, ro⟩ := yr
      go_upto_region 22 with (fail)
      refine LateKit.wp_region_last (fun w' => Below w8.heap.size w8 w') [9, 10, 11] (by kernel_rfl) ((Below.refl _ _).drew) (fun hHeld => ?_)
      refine LateKit.wpAnyK_take (i := 0) (v := .pointer (some ⟨w5.heap.size, 3, none⟩)) (C := [0, 1, 9, 10, 11]) rfl (by kernel_rfl) (by kernel_rfl) (by kernel_rfl) (by kernel_rfl) (fun _ _ _ h => h) (Or.inl ⟨by rfl, fun w1' hSw => by (go_simp)⟩) (by assumption) ?_
      simp only [List.getElem_toArray, List.getElem_cons_zero, Act.put, List.setIfInBounds_toArray, List.set_cons_zero, List.set_cons_succ]
      refine LateKit.wpAnyK_take (i := 1) (v := v) (C := [1, 9, 10, 11]) rfl (by kernel_rfl) (by kernel_rfl) (by kernel_rfl) (by kernel_rfl) (fun _ _ _ h => h) (Or.inl ⟨by rfl, fun w1' hSw => by (obtain ⟨r1, r2, r3⟩ := HALL.out _ hSw; go_simp)⟩) (by assumption) ?_
      simp only [List.getElem_toArray, List.getElem_cons_succ, List.getElem_cons_zero, Act.put, List.setIfInBounds_toArray, List.set_cons_zero, List.set_cons_succ]
      refine LateKit.wpAnyK_take (i := 2) (v := .pointer (some ⟨w.heap.size, 4, none⟩)) (C := [2, 3, 4, 8, 9, 10, 11]) rfl (by kernel_rfl) (by kernel_rfl) (by kernel_rfl) (by kernel_rfl) (fun _ _ _ h => h) (Or.inl ⟨by rfl, fun w1' hSw => by (go_simp)⟩) (by assumption) ?_
      simp only [List.getElem_toArray, List.getElem_cons_succ, List.getElem_cons_zero, Act.put, List.setIfInBounds_toArray, List.set_cons_zero, List.set_cons_succ]
      refine LateKit.wpAnyK_take (i := 3) (v := .slice la ll lc) (C := [3, 4, 8, 9, 10, 11]) rfl (by kernel_rfl) (by kernel_rfl) (by kernel_rfl) (by kernel_rfl) (fun _ _ _ h => h) (Or.inl ⟨by rfl, fun w1' hSw => by (obtain ⟨r1, r2, r3⟩ := HALL.out _ hSw; go_simp)⟩) (by assumption) ?_
      simp only [List.getElem_toArray, List.getElem_cons_succ, List.getElem_cons_zero, Act.put, List.setIfInBounds_toArray, List.set_cons_zero, List.set_cons_succ]
      refine LateKit.wpAnyK_take (i := 5) (v := .pointer (some ⟨w.heap.size, 5, none⟩)) (C := [5, 6, 7, 8, 9, 10, 11]) rfl (by kernel_rfl) (by kernel_rfl) (by kernel_rfl) (by kernel_rfl) (fun _ _ _ h => h) (Or.inl ⟨by rfl, fun w1' hSw => by (go_simp)⟩) (by assumption) ?_
      simp only [List.getElem_toArray, List.getElem_cons_succ, List.getElem_cons_zero, Act.put, List.setIfInBounds_toArray, List.set_cons_zero, List.set_cons_succ]
      refine LateKit.wpAnyK_take (i := 6) (v := .slice ra rl rc) (C := [6, 7, 8, 9, 10, 11]) rfl (by kernel_rfl) (by kernel_rfl) (by kernel_rfl) (by kernel_rfl) (fun _ _ _ h => h) (Or.inl ⟨by rfl, fun w1' hSw => by (obtain ⟨r1, r2, r3⟩ := HALL.out _ hSw; go_simp)⟩) (by assumption) ?_
      simp only [List.getElem_toArray, List.getElem_cons_succ, List.getElem_cons_zero, Act.put, List.setIfInBounds_toArray, List.set_cons_zero, List.set_cons_succ]
      refine LateKit.wpAnyK_ready (rs := [4]) (by kernel_rfl) (by simp) ?_
      refine LateKit.AllReadyK.cons rfl (fun K hK => ?_) LateKit.AllReadyK.nil
      simp only [List.getElem_toArray, List.getElem_cons_succ, List.getElem_cons_zero]
      go_simp
      refine (HC1.out w8.drew (Below.refl _ _).drew).mono ?_
      rintro e wa ⟨⟨A6, c6, rfl, hc6, hX6⟩, hbwa⟩
      simp only [T.val, T.k, T.s, T.n, T.kids, T.at_]
      go_wp2_with fail
      refine hK.out _ _ (((Below.refl w8.heap.size w8).drew).trans hbwa) (fun hHeld => ?_)
      clear hK K
      refine LateKit.wpAnyK_ready (rs := [7]) (by kernel_rfl) (by simp) ?_
      refine LateKit.AllReadyK.cons rfl (fun K hK => ?_) LateKit.AllReadyK.nil
      simp only [List.getElem_toArray, List.getElem_cons_succ, List.getElem_cons_zero]
      go_simp
      refine (HC2.out wa (((Below.refl w8.heap.size w8).drew).trans hbwa)).mono ?_
      rintro e wb ⟨⟨A7, c7, rfl, hc7, hX7⟩, hbwb⟩
      simp only [T.val, T.k, T.s, T.n, T.kids, T.at_]
      go_wp2_with fail
      have HXL := Lib.hid ((hX6.kept fun k hk => hbwb.block k hk.2).mono fun k hk => (⟨hk.1, Nat.lt_of_lt_of_le hk.2 hbwb.size⟩ : w8.drew.heap.size ≤ k ∧ k < wb.heap.size))
      have HXR := Lib.hid (hX7.mono fun k hk => (⟨Nat.le_trans hbwa.size hk.1, hk.2⟩ : w8.drew.heap.size ≤ k ∧ k < wb.heap.size))
      have HC6 := Lib.hid hc6
      have HC7 := Lib.hid hc7
      have HB8 : Hid (Below w8.heap.size w8 wb) := Lib.hid ((((Below.refl w8.heap.size w8).drew).trans hbwa).trans (hbwb.mono hbwa.size))
      have HK6 := Lib.hid (HK.out.bel HB8.out)
      refine hK.out _ _ HB8.out (fun hHeld => ?_)
      clear hK K hX6 hX7 hc6 hc7 hbwa hbwb
      refine LateKit.wpAnyK_ready (rs := [8]) (by kernel_rfl) (by simp) ?_
      refine LateKit.AllReadyK.cons rfl (fun K hK => ?_) LateKit.AllReadyK.nil
      simp only [List.getElem_toArray, List.getElem_cons_succ, List.getElem_cons_zero]
      go_simp
      refine hK.out _ _ (HB8.out.alloc HB8.out.size _) (fun hHeld => ?_)
      clear hK K
      refine LateKit.wpAnyK_ready (rs := [9]) (by kernel_rfl) (by simp) ?_
      refine LateKit.AllReadyK.late (by decide) rfl (fun K hK => ?_) LateKit.AllReadyK.nil
      refine step_append_lies _ rfl _ _ _ rfl w3.heap.size 71 i0 _ 5 64 Tryz.underlying69 hi hz0 hz1 hz2 rfl (by decide) _ _ _ rfl (HK6.out.own.alloc _) ⟨wb.heap.size, 0, none⟩ 2 2 [.int .i64 lk, .string ls, .int .i64 ln, .slice A6 lt.length c6, .int .i64 lo, .int .i64 rk, .string rs, .int .i64 rn, .slice A7 rt.length c7, .int .i64 ro] rfl rfl (World.news_of_block (heap_alloc_new wb _)) (flatT_ones [((.mk lk ls ln lt lo : T), A6, c6), ((.mk rk rs rn rt ro : T), A7, c7)]) (by decide) (maxl2 hpl2.out) (bytes2 hpl2.out) (Nat.le_trans (Nat.le_trans (Nat.le_trans HB35.out (Nat.le_of_lt HK.out.lt)) HB8.out.size) (box_below wb _ _).size) _ rfl ?_
      intro g' cap w7 hown7 hgrow hat hlt7
      have HO7 := Lib.hid hown7
      have HG7 : Hid (wb.grownBy w7 v.ownBlock) := Lib.hid ((World.grownBy_alloc _ _ _).trans hgrow)
      have hat7 : Hid ((Value.slice (some ⟨g', 0, none⟩) (ps.length + 2) cap).ownBlock = v.ownBlock ∨ ∃ n, (Value.slice (some ⟨g', 0, none⟩) (ps.length + 2) cap).ownBlock = some n ∧ wb.heap.size ≤ n) := Lib.hid (hat.imp (fun h => h.symm) fun h => ⟨g', rfl, by rw [h]; exact (box_below wb _ _).size⟩)
      have HE7 := Lib.hid ((HG7.out.block w5.heap.size HK6.out.lt (fun e => HK6.out.notb e.symm)).trans HK6.out.box)
      obtain ⟨⟨p0, p1, p2, p3, p4⟩, q0, q1, q2, q3, q4⟩ := cell5 HE7.out
      clear hown7 hgrow hat
      refine hK.out _ _ ?_
      clear hK K
      simp only [List.getElem_toArray, List.getElem_cons_succ, List.getElem_cons_zero, Act.put, List.setIfInBounds_toArray, List.set_cons_zero, List.set_cons_succ]
      refine LateKit.wpAnyK_ready (rs := [10]) (by kernel_rfl) (by simp) ?_
      refine LateKit.AllReadyK.late (by decide) rfl (fun K hK => ?_) LateKit.AllReadyK.nil
      simp only [List.getElem_toArray, List.getElem_cons_succ, List.getElem_cons_zero]
      go_simp
      refine hK.out _ _ ?_
      clear hK K
      refine LateKit.wpAnyK_ready (rs := [11]) (by kernel_rfl) (by simp) ?_
      refine LateKit.AllReadyK.late (by decide) rfl (fun K hK => ?_) LateKit.AllReadyK.nil
      simp only [List.getElem_toArray, List.getElem_cons_succ, List.getElem_cons_zero]
      go_simp
      refine hK.out _ _ ?_
      clear hK K
      refine LateKit.wpAnyK_done (by kernel_rfl) ?_ _
      go_wp2_with fail
      go_meet
      case rel => exact ⟨rfl, _, _, HK6.out.step (xs := [((.mk lk ls ln lt lo : T), A6, c6), ((.mk rk rs rn rt ro : T), A7, c7)]) (sz := w8.heap.size) HG7.out HO7.out hat7.out (two_ok HC6.out HXL.out HC7.out HXR.out) (Nat.le_trans HB35.out (Nat.le_of_lt HK.out.lt)) HK.out.lt hvo.out, by rw [List.map_append, HPS.out, hmid.out]; rfl⟩
    · go_wp2_with fail
      go_meet
      case rel => exact ⟨rfl, _, _, HS.out, rfl⟩
    · go_wp2_with fail
      go_meet
      case rel => exact ⟨rfl, _, _, HS.out, rfl⟩
    · obtain ⟨v, ps, hK, hps⟩ : KTo w1 w5.heap.size w3.heap.size [.mk 2 wk 0 [] 0] w8 := ⟨_, _, HS.out, rfl⟩
      have HK := Lib.hid hK
      have HPS := Lib.hid hps
      have hvo := Lib.hid (fun k (e : v.ownBlock = some k) => (HK.out.own.lt k e).2)
      have HBW := Lib.hid (HB1.out.trans (HK.out.below.mono (Nat.le_of_lt hs1)))
      have HBP := Lib.hid ((HK.out.below.block w.heap.size hs0).trans HP1.out)
      clear hK hps
      have hpl := Lib.hid (ps_len2 HPS.out (j := 1) rfl)
      have hpl2 := Lib.hid (show ps.length ≤ 2000 by rw [hpl.out]; decide)
      have d4 := (cell8 HBP.out).c4
      have g0 := (cell5 HK.out.box).1.2.2.2.1
      have HBX := Lib.hid (show Below w8.heap.size w8 w8.drew from (Below.refl _ _).drew)
      have HCL := Lib.hid (call_list (A := la) (c := lc) HLL.out l3 ((HLF.out.kept fun k hk => (HBW.out.trans (HBX.out.mono HBW.out.size)).block k hk).mono fun k hk => Nat.lt_of_lt_of_le hk (HBW.out.trans (HBX.out.mono HBW.out.size)).size))
      have hmid : Hid (midP 7 nm ex cols left right ag = listT left :: ag.map fun g => listT (aggL g)) := Lib.hid rfl
      generalize hyl : listT left = yl at *
      have HYL := Lib.hid hyl
      clear hyl
      obtain ⟨tk, ts, tn, tl, ta⟩ := yl
      go_upto_region 24 with (fail)
      go_cut [4] (fun s4 wx => s4 = .pointer (some ⟨w5.heap.size, 0, none⟩) ∧ KTo w1 w5.heap.size w3.heap.size [.mk 2 wk 0 [] 0, .mk tk ts tn tl ta] wx)
      case first =>
        go_region_law (first
          | (refine step_append_lies _ rfl _ _ _ rfl w3.heap.size 71 i0 _ 5 64 Tryz.underlying69 hi hz0 hz1 hz2 rfl (by decide) _ _ _ rfl (HK6.out.own.alloc _) ⟨w6.heap.size, 0, none⟩ 1 1 (TP.cs ((.mk tk ts tn tl ta : T), A6, c6)) rfl rfl (World.news_of_block (heap_alloc_new w6 _)) (by rw [← flatT_one]; exact flatT_ones _) (by decide) (maxl1 hpl2.out) (bytes1 hpl2.out) hsz6.out _ rfl ?_; intro g' cap w7 hown7 hgrow hat hlt7
             have HO7 := Lib.hid hown7
             have HG7 : Hid (w6.grownBy w7 v.ownBlock) := Lib.hid ((World.grownBy_alloc _ _ _).trans hgrow)
             have hat7 : Hid ((Value.slice (some ⟨g', 0, none⟩) (ps.length + 1) cap).ownBlock = v.ownBlock ∨ ∃ n, (Value.slice (some ⟨g', 0, none⟩) (ps.length + 1) cap).ownBlock = some n ∧ w6.heap.size ≤ n) := Lib.hid (hat.imp (fun h => h.symm) fun h => ⟨g', rfl, by rw [h]; exact (box_below w6 _ _).size⟩)
             have HE7 := Lib.hid ((HG7.out.block w5.heap.size HK6.out.lt (fun e => HK6.out.notb e.symm)).trans HK6.out.box)
             obtain ⟨⟨p0, p1, p2, p3, p4⟩, q0, q1, q2, q3, q4⟩ := cell5 HE7.out
             clear hown7 hgrow hat)
          | (go_simp; go_at_call 68; refine (HCL.out).mono ?_; rintro e w6 ⟨⟨A6, c6, rfl, hc6, hX6⟩, hb6⟩
             simp only [T.val, T.k, T.s, T.n, T.kids, T.at_]
             have HK6 := Lib.hid (HK.out.bel (HBX.out.trans (hb6.mono HBX.out.size)))
             have hsz6 : Hid (w3.heap.size ≤ (w6.alloc (.cells #[.int .i64 tk, .string ts, .int .i64 tn, .slice A6 tl.length c6, .int .i64 ta] 71)).heap.size) := Lib.hid (Nat.le_trans (Nat.le_trans HB35.out (Nat.le_of_lt HK6.out.lt)) (box_below w6 _ _).size)
             have g3 : w6.cell? ⟨w5.heap.size, 3, none⟩ = some v := (cell5 HK6.out.box).1.2.2.2.1
             have g3b : (w6.alloc (.cells #[.int .i64 tk, .string ts, .int .i64 tn, .slice A6 tl.length c6, .int .i64 ta] 71)).cell? ⟨w5.heap.size, 3, none⟩ = some v := (World.cell?_alloc_some _ _ _ (by rw [g3]; rfl)).trans g3
             have HX6 := Lib.hid hX6
             have HC6 := Lib.hid hc6
             clear hX6 hc6
             clear hb6))
        all_goals
          go_wp2_with fail
          go_meet
          case rel => exact ⟨rfl, _, _, HK6.out.step (xs := [((.mk tk ts tn tl ta : T), A6, c6)]) (sz := w8.heap.size) HG7.out (by rw [flatT_one]; exact HO7.out) hat7.out (one_ok HC6.out (HX6.out.mono fun k hk => ⟨Nat.le_trans HBX.out.size hk.1, hk.2⟩)) (Nat.le_trans HB35.out (Nat.le_of_lt HK.out.lt)) HK.out.lt hvo.out, by rw [List.map_append, HPS.out]; rfl⟩
      case rest =>
        obtain ⟨rfl, v0, ps0, hK0, hps0⟩ := hcut
        clear HK HPS hpl hpl2 hvo HBW HBP d4 g0 HBX HCL
        have HK0 := Lib.hid hK0
        have HPS0 := Lib.hid hps0
        have HP0 := Lib.hid ((hK0.below.block w.heap.size hs0).trans HP1.out)
        clear hK0 hps0
        have d6 := (cell8 HP0.out).c6
        go_wp2_with fail
        go_loopw [118] (fun i wr => ∃ j : Nat, j ≤ gl ∧ i = .int .i64 j ∧ KTo w1 w5.heap.size w3.heap.size ([.mk 2 wk 0 [] 0, .mk tk ts tn tl ta] ++ (ag.take j).map fun g => listT (aggL g)) wr) (fun i _ => gl - (intOf i).toNat)
        case atStart => exact ⟨0, Nat.zero_le _, rfl, _, _, HK0.out, by rw [HPS0.out]; rfl⟩
        case round =>
          obtain ⟨j, hj, rfl, v, ps, hK, hps⟩ := hrel
          have HK := Lib.hid hK
          have HPS := Lib.hid hps
          have hvo := Lib.hid (fun k (e : v.ownBlock = some k) => (HK.out.own.lt k e).2)
          have HBW := Lib.hid (HB1.out.trans (HK.out.below.mono (Nat.le_of_lt hs1)))
          have HBP := Lib.hid ((HK.out.below.block w.heap.size hs0).trans HP1.out)
          clear hK hps
          have hpl2 := Lib.hid (app_len (k := 2) HPS.out rfl (by simp) HGL.out hj l5)
          by_cases hlt : j < gl
          · obtain ⟨x, hx⟩ := get_some HGL.out hlt
            obtain ⟨b, o, rfl, hbl, m0, m1, m2⟩ := lies_ag HG.out hx
            have m0' := (HBW.out.cell (p := ⟨b, o + j * 3, none⟩) hbl).trans m0
            have m1' := (HBW.out.cell (p := ⟨b, o + j * 3 + 1, none⟩) hbl).trans m1
            have m2' := (HBW.out.cell (p := ⟨b, o + j * 3 + 2, none⟩) hbl).trans m2
            have htk := Lib.hid (app_snoc (fun g => listT (aggL g)) [.mk 2 wk 0 [] 0, .mk tk ts tn tl ta] hx)
            clear m0 m1 m2 hx
            obtain ⟨an, af, ac⟩ := x
            obtain ⟨wx, ewx⟩ : ∃ wx, wx = wr.alloc (.cells #[.string an, .string af, .string ac] 46) := ⟨_, rfl⟩
            have hbx : Below wr.heap.size wr wx := by rw [ewx]; exact (Below.refl _ _).alloc (Nat.le_refl _) _
            have hnx : wx.heap[wr.heap.size]? = some (.cells #[.string an, .string af, .string ac] 46 (0, 0)) := by rw [ewx]; exact heap_alloc_new wr _
            obtain ⟨wy, ewy⟩ : ∃ wy, wy = wx.alloc (.cells #[.string an, .string af] 9) := ⟨_, rfl⟩
            have hby : Below wx.heap.size wx wy := by rw [ewy]; exact (Below.refl _ _).alloc (Nat.le_refl _) _
            have hny : wy.heap[wx.heap.size]? = some (.cells #[.string an, .string af] 9 (0, 0)) := by rw [ewy]; exact heap_alloc_new wx _
            have HNX := Lib.hid hnx
            have HNY := Lib.hid ((hby.block _ (Array.getElem?_eq_some_iff.1 hnx).1).trans hnx)
            have HOY : Hid (wy.ownsRow wx.heap.size 9 1 (.slice (some ⟨wx.heap.size, 0, none⟩) 2 2) 2 (strs [an, af])) := Lib.hid ⟨rfl, .inr ⟨wx.heap.size, 2, _, rfl, Nat.le_refl _, hny, Nat.le_refl _, by decide, rfl, rfl⟩⟩
            have HBY : Hid (Below wr.heap.size wr wy) := Lib.hid (hbx.trans (hby.mono hbx.size))
            have hxs := Lib.hid hbx.size
            have HWX := Lib.hid ewx
            have HWY := Lib.hid ewy
            clear ewx hbx hnx ewy hby hny
            obtain ⟨⟨e0, e1, e2⟩, _, _, _⟩ := cell3p HNX.out
            go_upto_region 28 with (fail)
            rw [← HWX.out]
            go_upto_region 29 with (fail)
            rw [← HWY.out]
            clear e0 e1 e2
            obtain ⟨⟨e0, e1, e2⟩, _, _, _⟩ := cell3p HNY.out
            by_cases hf : af.toList = [99, 111, 117, 110, 116]
            · have hag : Hid (aggL ⟨an, af, ac⟩ = [an, af]) := Lib.hid (agg_is hf)
              have HBX : Hid (Below wr.heap.size wr wy.drew) := Lib.hid HBY.out.drew
              have HCL := Lib.hid (call_list (A := some ⟨wx.heap.size, 0, none⟩) (c := 2) (n := 2) (l := [an, af]) (w := wy.drew) rfl (by decide) (own_lies2 HOY.out))
              have g0 := (cell5 (HK.out.bel HBY.out).box).1.2.2.2.1
              generalize hyy : listT [an, af] = y at *
              have HYY := Lib.hid hyy
              clear hyy
              obtain ⟨uk, us, un, ul, uo⟩ := y
              go_upto_region 31 with (fail)
              go_region_law (first
                | (refine step_append_lies _ rfl _ _ _ rfl w3.heap.size 71 i0 _ 5 64 Tryz.underlying69 hi hz0 hz1 hz2 rfl (by decide) _ _ _ rfl (HK6.out.own.alloc _) ⟨w6.heap.size, 0, none⟩ 1 1 (TP.cs ((.mk uk us un ul uo : T), A6, c6)) rfl rfl (World.news_of_block (heap_alloc_new w6 _)) (by rw [← flatT_one]; exact flatT_ones _) (by decide) (maxl1 hpl2.out) (bytes1 hpl2.out) hsz6.out _ rfl ?_; intro g' cap w7 hown7 hgrow hat hlt7
                   have HO7 := Lib.hid hown7
                   have HG7 : Hid (w6.grownBy w7 v.ownBlock) := Lib.hid ((World.grownBy_alloc _ _ _).trans hgrow)
                   have hat7 : Hid ((Value.slice (some ⟨g', 0, none⟩) (ps.length + 1) cap).ownBlock = v.ownBlock ∨ ∃ n, (Value.slice (some ⟨g', 0, none⟩) (ps.length + 1) cap).ownBlock = some n ∧ w6.heap.size ≤ n) := Lib.hid (hat.imp (fun h => h.symm) fun h => ⟨g', rfl, by rw [h]; exact (box_below w6 _ _).size⟩)
                   have HE7 := Lib.hid ((HG7.out.block w5.heap.size HK6.out.lt (fun e => HK6.out.notb e.symm)).trans HK6.out.box)
                   obtain ⟨⟨p0, p1, p2, p3, p4⟩, q0, q1, q2, q3, q4⟩ := cell5 HE7.out
                   clear hown7 hgrow hat)
                | (go_simp; go_at_call 68; refine (HCL.out).mono ?_; rintro e w6 ⟨⟨A6, c6, rfl, hc6, hX6⟩, hb6⟩
                   simp only [T.val, T.k, T.s, T.n, T.kids, T.at_]
                   have HK6 := Lib.hid (HK.out.bel (HBX.out.trans (hb6.mono HBX.out.size)))
                   have hsz6 : Hid (w3.heap.size ≤ (w6.alloc (.cells #[.int .i64 uk, .string us, .int .i64 un, .slice A6 ul.length c6, .int .i64 uo] 71)).heap.size) := Lib.hid (Nat.le_trans (Nat.le_trans HB35.out (Nat.le_of_lt HK6.out.lt)) (box_below w6 _ _).size)
                   have g3 : w6.cell? ⟨w5.heap.size, 3, none⟩ = some v := (cell5 HK6.out.box).1.2.2.2.1
                   have g3b : (w6.alloc (.cells #[.int .i64 uk, .string us, .int .i64 un, .slice A6 ul.length c6, .int .i64 uo] 71)).cell? ⟨w5.heap.size, 3, none⟩ = some v := (World.cell?_alloc_some _ _ _ (by rw [g3]; rfl)).trans g3
                   have HX6 := Lib.hid hX6
                   have HC6 := Lib.hid hc6
                   clear hX6 hc6
                   clear hb6))
              all_goals
                go_wp2_with fail
                go_roundw
                case measure => exact meas_j hlt
                case rel => exact ⟨j + 1, hlt, by simp, _, _, HK6.out.step (xs := [((.mk uk us un ul uo : T), A6, c6)]) (sz := wr.heap.size) HG7.out (by rw [flatT_one]; exact HO7.out) hat7.out (one_ok HC6.out (HX6.out.mono fun k hk => ⟨Nat.le_trans HBX.out.size hk.1, hk.2⟩)) (Nat.le_trans HB35.out (Nat.le_of_lt HK.out.lt)) HK.out.lt hvo.out, by rw [List.map_append, HPS.out, htk.out, hag.out, HYY.out]; rfl⟩
            · have hf' : (af.toList == [99, 111, 117, 110, 116]) = false := beq_eq_false_iff_ne.2 hf
              have hag : Hid (aggL ⟨an, af, ac⟩ = [an, af, ac]) := Lib.hid (agg_no hf)
              obtain ⟨iS, iS1, iS2, iS3, iS4⟩ := info_parts pstr_info
              clear hf
              go_wp2_with (at_builtin; refine wpList_append_own _ rfl _ _ 23 rfl wx.heap.size 9 iS _ 1 16 Tryz.underlying23 iS1 iS2 iS3 iS4 rfl (by decide) (.slice (some ⟨wx.heap.size, 0, none⟩) 2 2) 2 (strs [an, af]) rfl (own_below HOY.out ((Below.refl wy.heap.size wy).alloc (Nat.le_refl _) _)) ⟨wy.heap.size, 0, none⟩ 1 1 [.string ac] rfl rfl (World.news_of_block (heap_alloc_new wy _)) ones_str (by decide) (by decide) (Nat.le_trans (own_le HOY.out) (box_below wy _ _).size) ?_)
              intro v' w9 hown9 hgrow9 _
              have HB9 : Hid (Below wr.heap.size wr w9) := Lib.hid ((HBY.out.alloc HBY.out.size _).grown hgrow9 (Nat.le_trans HBY.out.size (box_below wy _ _).size) (fun k e => Nat.le_trans hxs.out (HOY.out.lt k e).1))
              obtain ⟨A9, c9, e9, hc9, hL9⟩ := own_lies hown9 (S := fun k => k < w9.drew.heap.size) (fun k h1 h2 => h2)
              subst e9
              have HL9 := Lib.hid hL9
              clear hown9 hgrow9 hL9
              have HBX : Hid (Below wr.heap.size wr w9.drew) := Lib.hid HB9.out.drew
              have HCL := Lib.hid (call_list (A := A9) (c := c9) (n := 3) (l := [an, af, ac]) (w := w9.drew) rfl (by decide) (lies_drew HL9.out))
              have g0 := (cell5 (HK.out.bel HB9.out).box).1.2.2.2.1
              generalize hyy : listT [an, af, ac] = y at *
              have HYY := Lib.hid hyy
              clear hyy
              obtain ⟨uk, us, un, ul, uo⟩ := y
              go_upto_region 31 with (fail)
              go_region_law (first
                | (refine step_append_lies _ rfl _ _ _ rfl w3.heap.size 71 i0 _ 5 64 Tryz.underlying69 hi hz0 hz1 hz2 rfl (by decide) _ _ _ rfl (HK6.out.own.alloc _) ⟨w6.heap.size, 0, none⟩ 1 1 (TP.cs ((.mk uk us un ul uo : T), A6, c6)) rfl rfl (World.news_of_block (heap_alloc_new w6 _)) (by rw [← flatT_one]; exact flatT_ones _) (by decide) (maxl1 hpl2.out) (bytes1 hpl2.out) hsz6.out _ rfl ?_; intro g' cap w7 hown7 hgrow hat hlt7
                   have HO7 := Lib.hid hown7
                   have HG7 : Hid (w6.grownBy w7 v.ownBlock) := Lib.hid ((World.grownBy_alloc _ _ _).trans hgrow)
                   have hat7 : Hid ((Value.slice (some ⟨g', 0, none⟩) (ps.length + 1) cap).ownBlock = v.ownBlock ∨ ∃ n, (Value.slice (some ⟨g', 0, none⟩) (ps.length + 1) cap).ownBlock = some n ∧ w6.heap.size ≤ n) := Lib.hid (hat.imp (fun h => h.symm) fun h => ⟨g', rfl, by rw [h]; exact (box_below w6 _ _).size⟩)
                   have HE7 := Lib.hid ((HG7.out.block w5.heap.size HK6.out.lt (fun e => HK6.out.notb e.symm)).trans HK6.out.box)
                   obtain ⟨⟨p0, p1, p2, p3, p4⟩, q0, q1, q2, q3, q4⟩ := cell5 HE7.out
                   clear hown7 hgrow hat)
                | (go_simp; go_at_call 68; refine (HCL.out).mono ?_; rintro e w6 ⟨⟨A6, c6, rfl, hc6, hX6⟩, hb6⟩
                   simp only [T.val, T.k, T.s, T.n, T.kids, T.at_]
                   have HK6 := Lib.hid (HK.out.bel (HBX.out.trans (hb6.mono HBX.out.size)))
                   have hsz6 : Hid (w3.heap.size ≤ (w6.alloc (.cells #[.int .i64 uk, .string us, .int .i64 un, .slice A6 ul.length c6, .int .i64 uo] 71)).heap.size) := Lib.hid (Nat.le_trans (Nat.le_trans HB35.out (Nat.le_of_lt HK6.out.lt)) (box_below w6 _ _).size)
                   have g3 : w6.cell? ⟨w5.heap.size, 3, none⟩ = some v := (cell5 HK6.out.box).1.2.2.2.1
                   have g3b : (w6.alloc (.cells #[.int .i64 uk, .string us, .int .i64 un, .slice A6 ul.length c6, .int .i64 uo] 71)).cell? ⟨w5.heap.size, 3, none⟩ = some v := (World.cell?_alloc_some _ _ _ (by rw [g3]; rfl)).trans g3
                   have HX6 := Lib.hid hX6
                   have HC6 := Lib.hid hc6
                   clear hX6 hc6
                   clear hb6))
              all_goals
                go_wp2_with fail
                go_roundw
                case measure => exact meas_j hlt
                case rel => exact ⟨j + 1, hlt, by simp, _, _, HK6.out.step (xs := [((.mk uk us un ul uo : T), A6, c6)]) (sz := wr.heap.size) HG7.out (by rw [flatT_one]; exact HO7.out) hat7.out (one_ok HC6.out (HX6.out.mono fun k hk => ⟨Nat.le_trans HBX.out.size hk.1, hk.2⟩)) (Nat.le_trans HB35.out (Nat.le_of_lt HK.out.lt)) HK.out.lt hvo.out, by rw [List.map_append, HPS.out, htk.out, hag.out, HYY.out]; rfl⟩
          · go_wp2_with fail
            go_meet
            case rel => exact ⟨rfl, v, ps, HK.out, by rw [HPS.out, hmid.out, List.take_of_length_le (by have := HGL.out; omega)]; rfl⟩
  case rest =>
    obtain ⟨rfl, v0, ps0, hK0, hps0⟩ := hcut
    have HK0 := Lib.hid hK0
    have HPS0 := Lib.hid hps0
    have HP0 := Lib.hid ((hK0.below.block w.heap.size hs0).trans HP1.out)
    have hml := Lib.hid (midP_len (k := k) (nm := nm) (left := left) (right := right) HEL.out HCL'.out HGL.out l1 l2 l5 HCC.out)
    generalize hmp : T.mk 2 wk 0 [] 0 :: midP k nm ex cols left right ag = base at *
    have hbl : Hid (base.length ≤ 602) := Lib.hid (by rw [← hmp, List.length_cons]; exact Nat.succ_le_succ hml.out)
    have hfin : Hid (openT (T.mk 2 wk 0 [] 0 :: (midP k nm ex cols left right ag ++ treePL kids)) = openT (base ++ kids.map treeP)) := Lib.hid (by rw [← hmp, treePL_map]; rfl)
    clear hK0 hps0 hmp
    have d7 := (cell8 HP0.out).c7
    go_wp2_with fail
    go_loopw [146] (fun i wr => ∃ j : Nat, j ≤ kl ∧ i = .int .i64 j ∧ KTo w1 w5.heap.size w3.heap.size (base ++ (kids.take j).map treeP) wr) (fun i _ => kl - (intOf i).toNat)
    case atStart => exact ⟨0, Nat.zero_le _, rfl, _, _, HK0.out, by rw [HPS0.out]; simp⟩
    case round =>
      obtain ⟨j, hj, rfl, v, ps, hK, hps⟩ := hrel
      have HK := Lib.hid hK
      have HPS := Lib.hid hps
      have hvo := Lib.hid (fun k (e : v.ownBlock = some k) => (HK.out.own.lt k e).2)
      have HBW := Lib.hid (HB1.out.trans (HK.out.below.mono (Nat.le_of_lt hs1)))
      have HBP := Lib.hid ((HK.out.below.block w.heap.size hs0).trans HP1.out)
      clear hK hps
      have hpl2 := Lib.hid (app_len (k := 602) HPS.out rfl hbl.out HKL.out hj l6)
      by_cases hlt : j < kl
      · obtain ⟨x, hx⟩ := get_some HKL.out hlt
        obtain ⟨b, o, aq, rfl, hbl2, hcs, hat⟩ := HKD.out.at hx
        have hcw : ∀ i u, (x.cs aq)[i]? = some u → wr.cell? ⟨b, o + j * 8 + i, none⟩ = some u := fun i u hu => (HBW.out.cell (p := ⟨b, o + j * 8 + i, none⟩) hbl2).trans (hcs i u hu)
        have m0 := hcw 0 _ rfl
        have m1 := hcw 1 _ rfl
        have m2 := hcw 2 _ rfl
        have m3 := hcw 3 _ rfl
        have m4 := hcw 4 _ rfl
        have m5 := hcw 5 _ rfl
        have m6 := hcw 6 _ rfl
        have m7 := hcw 7 _ rfl
        rw [Nat.add_zero] at m0
        have htk := Lib.hid (app_snoc treeP base hx)
        obtain ⟨wx, ewx⟩ : ∃ wx, wx = wr.alloc (.cells #[.int .i64 x.k, .string x.nm, .slice aq.ea x.ex.length aq.ec, .slice aq.ca x.cols.length aq.cc, .slice aq.la x.left.length aq.lc, .slice aq.ra x.right.length aq.rc, .slice aq.ga x.ag.length aq.gc, .slice aq.ka x.kids.length aq.kc] 27) := ⟨_, rfl⟩
        have hbx : Below wr.heap.size wr wx := by rw [ewx]; exact (Below.refl _ _).alloc (Nat.le_refl _) _
        have hnx : wx.heap[wr.heap.size]? = some (.cells #[.int .i64 x.k, .string x.nm, .slice aq.ea x.ex.length aq.ec, .slice aq.ca x.cols.length aq.cc, .slice aq.la x.left.length aq.lc, .slice aq.ra x.right.length aq.rc, .slice aq.ga x.ag.length aq.gc, .slice aq.ka x.kids.length aq.kc] 27 (0, 0)) := by rw [ewx]; exact heap_alloc_new wr _
        have hbw := HBW.out.trans (hbx.mono HBW.out.size)
        have hcl := HM.out x (List.mem_of_getElem? hx) (HMK.out x (List.mem_of_getElem? hx)) (HFK.out x (List.mem_of_getElem? hx)) aq wx.drew ((hat.kept (w' := wx.drew) fun k hk => hbw.block k hk).mono fun k hk => Nat.lt_of_lt_of_le hk hbw.size)
        simp only [P.val] at hcl
        have HCL := Lib.hid hcl
        have HBX : Hid (Below wr.heap.size wr wx.drew) := Lib.hid hbx.drew
        have g0 := (cell5 (HK.out.bel hbx).box).1.2.2.2.1
        have HWX := Lib.hid ewx
        obtain ⟨z0, z1, z2, z3, z4, z5, z6, z7, _, _, _, _, _, _, _, _⟩ := cell8 hnx
        obtain ⟨y, hy⟩ : ∃ y, y = treeP x := ⟨_, rfl⟩
        rw [← hy] at HCL htk
        clear ewx hbx hnx hx hat hcs hcw hbw hcl hy
        obtain ⟨tk, ts, tn, tl, ta⟩ := y
        generalize x.k = xk at *
        generalize x.nm = xnm at *
        generalize x.ex.length = x1 at *
        generalize x.cols.length = x2 at *
        generalize x.left.length = x3 at *
        generalize x.right.length = x4 at *
        generalize x.ag.length = x5 at *
        generalize x.kids.length = x6 at *
        obtain ⟨qa, qb, qc, qd, qe, qf, qg, qh, qi, qj, qk, ql⟩ := aq
        simp only at m0 m1 m2 m3 m4 m5 m6 m7 z0 z1 z2 z3 z4 z5 z6 z7 HCL HWX
        go_upto_region 36 with (fail)
        rw [← HWX.out]
        go_region_law (first
          | (refine step_append_lies _ rfl _ _ _ rfl w3.heap.size 71 i0 _ 5 64 Tryz.underlying69 hi hz0 hz1 hz2 rfl (by decide) _ _ _ rfl (HK6.out.own.alloc _) ⟨w6.heap.size, 0, none⟩ 1 1 (TP.cs ((.mk tk ts tn tl ta : T), A6, c6)) rfl rfl (World.news_of_block (heap_alloc_new w6 _)) (by rw [← flatT_one]; exact flatT_ones _) (by decide) (maxl1 hpl2.out) (bytes1 hpl2.out) hsz6.out _ rfl ?_; intro g' cap w7 hown7 hgrow hat hlt7
             have HO7 := Lib.hid hown7
             have HG7 : Hid (w6.grownBy w7 v.ownBlock) := Lib.hid ((World.grownBy_alloc _ _ _).trans hgrow)
             have hat7 : Hid ((Value.slice (some ⟨g', 0, none⟩) (ps.length + 1) cap).ownBlock = v.ownBlock ∨ ∃ n, (Value.slice (some ⟨g', 0, none⟩) (ps.length + 1) cap).ownBlock = some n ∧ w6.heap.size ≤ n) := Lib.hid (hat.imp (fun h => h.symm) fun h => ⟨g', rfl, by rw [h]; exact (box_below w6 _ _).size⟩)
             have HE7 := Lib.hid ((HG7.out.block w5.heap.size HK6.out.lt (fun e => HK6.out.notb e.symm)).trans HK6.out.box)
             obtain ⟨⟨p0, p1, p2, p3, p4⟩, q0, q1, q2, q3, q4⟩ := cell5 HE7.out
             clear hown7 hgrow hat)
          | (go_simp; go_at_call 32; refine (HCL.out).mono ?_; rintro e w6 ⟨⟨A6, c6, rfl, hc6, hX6⟩, hb6⟩
             simp only [T.val, T.k, T.s, T.n, T.kids, T.at_]
             have HK6 := Lib.hid (HK.out.bel (HBX.out.trans (hb6.mono HBX.out.size)))
             have hsz6 : Hid (w3.heap.size ≤ (w6.alloc (.cells #[.int .i64 tk, .string ts, .int .i64 tn, .slice A6 tl.length c6, .int .i64 ta] 71)).heap.size) := Lib.hid (Nat.le_trans (Nat.le_trans HB35.out (Nat.le_of_lt HK6.out.lt)) (box_below w6 _ _).size)
             have g3 : w6.cell? ⟨w5.heap.size, 3, none⟩ = some v := (cell5 HK6.out.box).1.2.2.2.1
             have g3b : (w6.alloc (.cells #[.int .i64 tk, .string ts, .int .i64 tn, .slice A6 tl.length c6, .int .i64 ta] 71)).cell? ⟨w5.heap.size, 3, none⟩ = some v := (World.cell?_alloc_some _ _ _ (by rw [g3]; rfl)).trans g3
             have HX6 := Lib.hid hX6
             have HC6 := Lib.hid hc6
             clear hX6 hc6
             clear hb6))
        all_goals
          go_wp2_with fail
          go_roundw
          case measure => exact meas_j hlt
          case rel => exact ⟨j + 1, hlt, by simp, _, _, HK6.out.step (xs := [((.mk tk ts tn tl ta : T), A6, c6)]) (sz := wr.heap.size) HG7.out (by rw [flatT_one]; exact HO7.out) hat7.out (one_ok HC6.out (HX6.out.mono fun k hk => ⟨Nat.le_trans HBX.out.size hk.1, hk.2⟩)) (Nat.le_trans HB35.out (Nat.le_of_lt HK.out.lt)) HK.out.lt hvo.out, by rw [List.map_append, HPS.out, htk.out]; rfl⟩
      · have he : Hid (ps.map Prod.fst = base ++ kids.map treeP) := Lib.hid (by rw [HPS.out, List.take_of_length_le (by have := HKL.out; omega)])
        obtain ⟨A9, c9, rfl, hc9, hX9⟩ := kst_end HK.out (by have := hpl2.out; omega)
        rw [he.out] at hc9 hX9
        have HK9 := Lib.hid HK.out.box
        rw [he.out] at HK9
        have HX9 := Lib.hid hX9
        have hR9 := Lib.hid ((HK.out.below.block _ hs2).trans HR1.out)
        have HBW9 := Lib.hid HK.out.below
        generalize hLL : base ++ kids.map treeP = LL at *
        obtain ⟨⟨k0, k1, k2, k3, k4⟩, f0, f1, f2, f3, f4⟩ := cell5 HK9.out
        obtain ⟨⟨q0, q1, q2, q3, q4⟩, e0, e1, e2, e3, e4⟩ := cell5 hR9.out
        clear HK hX9 hpl2 hLL
        go_wp2_with fail
        refine bodyPost_ret (results_tree rfl rfl (put5_block hR9.out)) rfl ?_
        rw [hfin.out]
        exact treeRet_put2 HB1.out HBW9.out hc9 HX9.out (Nat.le_succ _) hs2 ⟨rfl, rfl, rfl, rfl, rfl⟩
theorem treeP_any : ∀ p, TreePOk p := P.ind treeP_step
end Go.Proofs.YtjhkihkiebnpaaaGreatDoor
