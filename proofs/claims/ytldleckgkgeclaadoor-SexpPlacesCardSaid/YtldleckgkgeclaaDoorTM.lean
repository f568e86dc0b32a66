/-
  Trees of brackets as plain trees, and as they lie in memory; rows of them that grow. No program in sight.
-/
import Derived.Test.YtldleckgkgeclaaDoorWords
import Derived.Deep.AppendLies
set_option linter.unusedVariables false
set_option linter.unusedSimpArgs false
namespace Go.Proofs.YtldleckgkgeclaaDoor
open Go.RowKit
inductive T where
  | mk (k : Int) (s : ByteArray) (n : Int) (kids : List T) (at_ : Int)
def T.k : T → Int | .mk k _ _ _ _ => k
def T.s : T → ByteArray | .mk _ s _ _ _ => s
def T.n : T → Int | .mk _ _ n _ _ => n
def T.kids : T → List T | .mk _ _ _ l _ => l
def T.at_ : T → Int | .mk _ _ _ _ a => a
theorem T.ind {P : T → Prop} (h : ∀ k s n l a, (∀ e ∈ l, P e) → P (.mk k s n l a)) : ∀ e, P e := by
  intro e
  exact T.rec (motive_1 := P) (motive_2 := fun l => ∀ e ∈ l, P e) (fun k s n l a ih => h k s n l a ih) (fun e he => by cases he) (fun e l h1 h2 x hx => by
    rcases List.mem_cons.1 hx with rfl | hx
    · exact h1
    · exact h2 x hx) e
/-- a slice at address A holds the trees l, below block B, and so on downwards -/
inductive TKids (w : World) (B : Nat) : Option Addr → List T → Prop
  | nil (A : Option Addr) : TKids w B A []
  | mk (b off : Nat) (l : List T) (hn : l.length ≤ 9223372036854775807) (hb : b < B) (A : Nat → Option Addr) (c : Nat → Nat)
      (h : ∀ i e, l[i]? = some e → w.cell? ⟨b, off + i * 5, none⟩ = some (.int .i64 e.k) ∧ w.cell? ⟨b, off + i * 5 + 1, none⟩ = some (.string e.s) ∧
        w.cell? ⟨b, off + i * 5 + 2, none⟩ = some (.int .i64 e.n) ∧ w.cell? ⟨b, off + i * 5 + 3, none⟩ = some (.slice (A i) e.kids.length (c i)) ∧ w.cell? ⟨b, off + i * 5 + 4, none⟩ = some (.int .i64 e.at_) ∧ e.kids.length ≤ c i)
      (hk : ∀ i e, l[i]? = some e → TKids w B (A i) e.kids) : TKids w B (some ⟨b, off, none⟩) l
theorem TKids.low {w w' : World} {B : Nat} {A : Option Addr} {l : List T} (h : TKids w B A l) (hb : Below B w w') : TKids w' B A l := by
  induction h with
  | nil A => exact .nil A
  | mk b off l hn hlt A c h hk ih =>
    refine .mk b off l hn hlt A c (fun i e he => ?_) (fun i e he => ih i e he)
    obtain ⟨h1, h2, h3, h4, h5, h6⟩ := h i e he
    exact ⟨(hb.cell hlt).trans h1, (hb.cell hlt).trans h2, (hb.cell hlt).trans h3, (hb.cell hlt).trans h4, (hb.cell hlt).trans h5, h6⟩
theorem TKids.more {w : World} {B B' : Nat} {A : Option Addr} {l : List T} (h : TKids w B A l) (hB : B ≤ B') : TKids w B' A l := by
  induction h with
  | nil A => exact .nil A
  | mk b off l hn hlt A c h hk ih => exact .mk b off l hn (by omega) A c h (fun i e he => ih i e he)
theorem TKids.len {w : World} {B : Nat} {A : Option Addr} {l : List T} (h : TKids w B A l) : l.length ≤ 9223372036854775807 := by
  cases h with
  | nil A => simp
  | mk b off l hn hlt A c h hk => exact hn
theorem TKids.get_ {w : World} {A : Option Addr} {l : List T} (h : TKids w w.heap.size A l) : ∀ w1, Below w.heap.size w w1 → ∀ i e, l[i]? = some e →
    ∃ b o A' c', A = some ⟨b, o, none⟩ ∧ b < w.heap.size ∧ w1.cell? ⟨b, o + i * 5, none⟩ = some (.int .i64 e.k) ∧ w1.cell? ⟨b, o + i * 5 + 1, none⟩ = some (.string e.s) ∧
      w1.cell? ⟨b, o + i * 5 + 2, none⟩ = some (.int .i64 e.n) ∧ w1.cell? ⟨b, o + i * 5 + 3, none⟩ = some (.slice A' e.kids.length c') ∧ w1.cell? ⟨b, o + i * 5 + 4, none⟩ = some (.int .i64 e.at_) ∧ e.kids.length ≤ c' ∧ TKids w1 w1.heap.size A' e.kids := by
  intro w1 hb i e he
  cases h with
  | nil A => simp at he
  | mk b off l hn hlt A c h hk =>
    obtain ⟨h1, h2, h3, h4, h5, h6⟩ := h i e he
    exact ⟨b, off, A i, c i, rfl, hlt, (hb.cell hlt).trans h1, (hb.cell hlt).trans h2, (hb.cell hlt).trans h3, (hb.cell hlt).trans h4, (hb.cell hlt).trans h5, h6, ((hk i e he).low hb).more hb.size⟩
/-- a tree's value -/
def T.val (e : T) (A : Option Addr) (c : Nat) : Value := .agg #[.int .i64 e.k, .string e.s, .int .i64 e.n, .slice A e.kids.length c, .int .i64 e.at_]

abbrev TP := T × Option Addr × Nat
def TP.cs (x : TP) : List Value := [.int .i64 x.1.k, .string x.1.s, .int .i64 x.1.n, .slice x.2.1 x.1.kids.length x.2.2, .int .i64 x.1.at_]
def flatT (l : List TP) : List Value := l.flatMap TP.cs
theorem flatT_len (l : List TP) : (flatT l).length = l.length * 5 := by
  induction l with
  | nil => rfl
  | cons v l ih => show ((TP.cs v) ++ flatT l).length = _; simp [ih, TP.cs]; omega
theorem flatT_get (l : List TP) : ∀ (i : Nat) (v : TP), l[i]? = some v → (flatT l)[i * 5]? = some (.int .i64 v.1.k) ∧ (flatT l)[i * 5 + 1]? = some (.string v.1.s) ∧ (flatT l)[i * 5 + 2]? = some (.int .i64 v.1.n) ∧ (flatT l)[i * 5 + 3]? = some (.slice v.2.1 v.1.kids.length v.2.2) ∧ (flatT l)[i * 5 + 4]? = some (.int .i64 v.1.at_) := by
  induction l with
  | nil => intro i v h; simp at h
  | cons x l ih =>
    intro i v h
    have e : flatT (x :: l) = TP.cs x ++ flatT l := rfl
    rw [e]
    cases i with
    | zero =>
      obtain rfl : x = v := by simpa using h
      exact ⟨rfl, rfl, rfl, rfl, rfl⟩
    | succ i =>
      have := ih i v (by simpa using h)
      have hl : (TP.cs x).length = 5 := rfl
      rw [List.getElem?_append_right (by omega), List.getElem?_append_right (by omega), List.getElem?_append_right (by omega), List.getElem?_append_right (by omega), List.getElem?_append_right (by omega), hl]
      rw [show (i + 1) * 5 - 5 = i * 5 from by omega, show (i + 1) * 5 + 1 - 5 = i * 5 + 1 from by omega, show (i + 1) * 5 + 2 - 5 = i * 5 + 2 from by omega, show (i + 1) * 5 + 3 - 5 = i * 5 + 3 from by omega, show (i + 1) * 5 + 4 - 5 = i * 5 + 4 from by omega]
      exact this
theorem flatT_one (v : TP) : flatT [v] = TP.cs v := by simp [flatT]
theorem flatT_append (a b : List TP) : flatT (a ++ b) = flatT a ++ flatT b := by simp [flatT]
theorem flatT_ones (l : List TP) : ∀ u ∈ flatT l, u.oneCell' = true := by
  intro u hu
  obtain ⟨v, _, hv⟩ := List.mem_flatMap.1 hu
  simp only [TP.cs, List.mem_cons, List.not_mem_nil, or_false] at hv
  rcases hv with rfl | rfl | rfl | rfl | rfl <;> rfl
/-- the same as TKids, with all its blocks in S -/
inductive XTK (w : World) (S : Nat → Prop) : Option Addr → List T → Prop
  | nil (A : Option Addr) : XTK w S A []
  | mk (b off : Nat) (l : List T) (hn : l.length ≤ 9223372036854775807) (hb : S b) (A : Nat → Option Addr) (c : Nat → Nat)
      (h : ∀ i e, l[i]? = some e → w.cell? ⟨b, off + i * 5, none⟩ = some (.int .i64 e.k) ∧ w.cell? ⟨b, off + i * 5 + 1, none⟩ = some (.string e.s) ∧
        w.cell? ⟨b, off + i * 5 + 2, none⟩ = some (.int .i64 e.n) ∧ w.cell? ⟨b, off + i * 5 + 3, none⟩ = some (.slice (A i) e.kids.length (c i)) ∧ w.cell? ⟨b, off + i * 5 + 4, none⟩ = some (.int .i64 e.at_) ∧ e.kids.length ≤ c i)
      (hk : ∀ i e, l[i]? = some e → XTK w S (A i) e.kids) : XTK w S (some ⟨b, off, none⟩) l
theorem XTK.kept {w w' : World} {S : Nat → Prop} {A : Option Addr} {l : List T} (h : XTK w S A l) (hw : ∀ k, S k → w'.heap[k]? = w.heap[k]?) : XTK w' S A l := by
  induction h with
  | nil A => exact .nil A
  | mk b off l hn hlt A c h hk ih =>
    refine .mk b off l hn hlt A c (fun i e he => ?_) (fun i e he => ih i e he)
    have hc : ∀ o, w'.cell? ⟨b, o, none⟩ = w.cell? ⟨b, o, none⟩ := fun o => World.cell?_of_block (hw b hlt)
    obtain ⟨h1, h2, h3, h4, h5, h6⟩ := h i e he
    exact ⟨(hc _).trans h1, (hc _).trans h2, (hc _).trans h3, (hc _).trans h4, (hc _).trans h5, h6⟩
theorem XTK.mono {w : World} {S S' : Nat → Prop} {A : Option Addr} {l : List T} (h : XTK w S A l) (hS : ∀ k, S k → S' k) : XTK w S' A l := by
  induction h with
  | nil A => exact .nil A
  | mk b off l hn hlt A c h hk ih => exact .mk b off l hn (hS b hlt) A c h (fun i e he => ih i e he)
theorem XTK.to {w : World} {S : Nat → Prop} {B : Nat} {A : Option Addr} {l : List T} (h : XTK w S A l) (hS : ∀ k, S k → k < B) : TKids w B A l := by
  induction h with
  | nil A => exact .nil A
  | mk b off l hn hlt A c h hk ih => exact .mk b off l hn (hS b hlt) A c h (fun i e he => ih i e he)
/-- what is owned is a row of trees -/
theorem own_trees {w : World} {base : Nat} {e : TypeId} {v : Value} {l : List TP} (h : w.ownsRow base e 5 v l.length (flatT l)) (hn : l.length ≤ 9223372036854775807) {S : Nat → Prop} (hS : ∀ g, base ≤ g → g < w.heap.size → S g) (hk : ∀ x ∈ l, x.1.kids.length ≤ x.2.2 ∧ XTK w S x.2.1 x.1.kids) :
    ∃ A c, v = .slice A (l.map Prod.fst).length c ∧ (l.map Prod.fst).length ≤ c ∧ XTK w S A (l.map Prod.fst) := by
  obtain ⟨_, hcase⟩ := id h
  rcases hcase with ⟨rfl, h0⟩ | ⟨g, cap, cur, rfl, hg, hh, hc, hcap, hsz, htake⟩
  · have e0 : l = [] := List.eq_nil_of_length_eq_zero h0
    subst e0
    exact ⟨none, 0, rfl, Nat.le_refl _, .nil _⟩
  · refine ⟨some ⟨g, 0, none⟩, cap, by rw [List.length_map], by rw [List.length_map]; exact hc, .mk g 0 _ (by rw [List.length_map]; exact hn) ?_ (fun i => ((l[i]?).map fun x => x.2.1).getD none) (fun i => ((l[i]?).map fun x => x.2.2).getD 0) (fun i x hx => ?_) (fun i x hx => ?_)⟩
    · refine hS g hg ?_
      rcases Nat.lt_or_ge g w.heap.size with hlt | hge
      · exact hlt
      · rw [Array.getElem?_eq_none hge] at hh; cases hh
    · rw [List.getElem?_map] at hx
      cases hl : l[i]? with
      | none => rw [hl] at hx; cases hx
      | some y =>
        rw [hl] at hx
        obtain rfl : y.1 = x := by simpa using hx
        obtain ⟨f1, f2, f3, f4, f5⟩ := flatT_get l i y hl
        have hi : i < l.length := (List.getElem?_eq_some_iff.1 hl).1
        rw [Nat.zero_add, h.cellAt _ (by omega), h.cellAt _ (by omega), h.cellAt _ (by omega), h.cellAt _ (by omega), h.cellAt _ (by omega)]
        exact ⟨f1, f2, f3, f4, f5, (hk y (List.mem_of_getElem? hl)).1⟩
    · rw [List.getElem?_map] at hx
      cases hl : l[i]? with
      | none => rw [hl] at hx; cases hx
      | some y =>
        rw [hl] at hx
        obtain rfl : y.1 = x := by simpa using hx
        exact (hk y (List.mem_of_getElem? hl)).2
theorem xt_round {wr w3 w6 : World} {v v' : Value} {base : Nat} {ps : List TP} {x : TP}
    (hxk : ∀ p ∈ ps, p.1.kids.length ≤ p.2.2 ∧ XTK wr (fun k => base ≤ k ∧ k < wr.heap.size ∧ v.ownBlock ≠ some k) p.2.1 p.1.kids)
    (hxc : x.1.kids.length ≤ x.2.2) (hx : XTK w3 (fun k => wr.heap.size ≤ k ∧ k < w3.heap.size) x.2.1 x.1.kids) (hbase : base ≤ wr.heap.size)
    (h1 : ∀ k, base ≤ k → k < wr.heap.size → v.ownBlock ≠ some k → w6.heap[k]? = wr.heap[k]?) (h2 : ∀ k, wr.heap.size ≤ k → k < w3.heap.size → w6.heap[k]? = w3.heap[k]?)
    (hs : wr.heap.size ≤ w3.heap.size) (hs6 : w3.heap.size ≤ w6.heap.size) (hv1 : ∀ k, v.ownBlock = some k → k < wr.heap.size) (hv : v'.ownBlock = v.ownBlock ∨ ∃ n, v'.ownBlock = some n ∧ w3.heap.size ≤ n) :
    ∀ p ∈ ps ++ [x], p.1.kids.length ≤ p.2.2 ∧ XTK w6 (fun k => base ≤ k ∧ k < w6.heap.size ∧ v'.ownBlock ≠ some k) p.2.1 p.1.kids := by
  intro p hp
  rcases List.mem_append.1 hp with hp | hp
  · refine ⟨(hxk p hp).1, ((hxk p hp).2.kept fun k hk => h1 k hk.1 hk.2.1 hk.2.2).mono fun k hk => ⟨hk.1, by have := hk.2.1; omega, ?_⟩⟩
    rcases hv with hv | ⟨n, hv, hn⟩
    · rw [hv]; exact hk.2.2
    · rw [hv]; intro e; have := Option.some.inj e; have := hk.2.1; omega
  · obtain rfl : p = x := by simpa using hp
    refine ⟨hxc, (hx.kept fun k hk => h2 k hk.1 hk.2).mono fun k hk => ⟨by have := hk.1; omega, by have := hk.2; omega, ?_⟩⟩
    rcases hv with hv | ⟨n, hv, hn⟩
    · rw [hv]; intro e; have := hv1 k e; have := hk.1; omega
    · rw [hv]; intro e; have := Option.some.inj e; have := hk.2; omega
theorem flatT_at (l : List TP) : ∀ (j : Nat) (u : Value), (flatT l)[j]? = some u → ∃ v, l[j / 5]? = some v ∧ (TP.cs v)[j % 5]? = some u := by
  induction l with
  | nil => intro j u h; simp [flatT] at h
  | cons x l ih =>
    intro j u h
    have e : flatT (x :: l) = TP.cs x ++ flatT l := rfl
    have hl : (TP.cs x).length = 5 := rfl
    rw [e] at h
    rcases Nat.lt_or_ge j 5 with hj | hj
    · rw [List.getElem?_append_left (by omega)] at h
      exact ⟨x, by rw [Nat.div_eq_of_lt hj]; rfl, by rw [Nat.mod_eq_of_lt hj]; exact h⟩
    · rw [List.getElem?_append_right (by omega), hl] at h
      obtain ⟨v, h1, h2⟩ := ih _ _ h
      refine ⟨v, ?_, ?_⟩
      · rw [show j / 5 = (j - 5) / 5 + 1 by omega, List.getElem?_cons_succ]; exact h1
      · rw [show j % 5 = (j - 5) % 5 by omega]; exact h2
/-- what lies in memory as kids reads as a list of them -/
theorem kids_reads {w : World} {S : Nat → Prop} {B : Nat} (hSB : ∀ k, S k → k < B) {A : Option Addr} {l : List T} (h : XTK w S A l) :
    ∃ qs : List TP, qs.map Prod.fst = l ∧ Reads w B 5 A l.length (flatT qs) ∧ ∀ q ∈ qs, q.1.kids.length ≤ q.2.2 ∧ XTK w S q.2.1 q.1.kids := by
  cases h with
  | nil A => exact ⟨[], rfl, Reads.none_, fun q hq => by cases hq⟩
  | mk b off l hn hb A c h hk =>
    refine ⟨l.mapIdx fun i e => (e, A i, c i), ?_, ⟨?_, fun _ => ⟨⟨b, off, none⟩, rfl, hSB b hb, fun j u hu => ?_⟩⟩, fun q hq => ?_⟩
    · apply List.ext_getElem?
      intro i
      rw [List.getElem?_map, List.getElem?_mapIdx]
      cases l[i]? <;> rfl
    · rw [flatT_len]; simp
    · obtain ⟨v, h1, h2⟩ := flatT_at _ j u hu
      rw [List.getElem?_mapIdx] at h1
      cases hl : l[j / 5]? with
      | none => rw [hl] at h1; cases h1
      | some e =>
        rw [hl] at h1
        obtain rfl := Option.some.inj h1
        obtain ⟨g1, g2, g3, g4, g5, _⟩ := h _ e hl
        have hadd : (⟨b, off, none⟩ : Addr).add j = ⟨b, off + j, none⟩ := by unfold Addr.add; split <;> simp_all
        rw [hadd, show off + j = off + j / 5 * 5 + j % 5 by omega]
        have hr : j % 5 < 5 := Nat.mod_lt _ (by decide)
        generalize j % 5 = r at *
        match r, hr, h2 with
        | 0, _, h2 => rw [Nat.add_zero, g1, ← h2]; rfl
        | 1, _, h2 => rw [g2, ← h2]; rfl
        | 2, _, h2 => rw [g3, ← h2]; rfl
        | 3, _, h2 => rw [g4, ← h2]; rfl
        | 4, _, h2 => rw [g5, ← h2]; rfl
    · obtain ⟨i, hi⟩ := List.mem_iff_getElem?.1 hq
      rw [List.getElem?_mapIdx] at hi
      cases hl : l[i]? with
      | none => rw [hl] at hi; cases hi
      | some e =>
        rw [hl] at hi
        obtain rfl := Option.some.inj hi
        exact ⟨(h i e hl).2.2.2.2.2, hk i e hl⟩
/-- one of the row's trees gets other kids -/
theorem flatT_set (l : List TP) : ∀ (i : Nat) (v : TP) (ks : List T) (A : Option Addr) (c : Nat), l[i]? = some v →
    (flatT l).set (i * 5 + 3) (.slice A ks.length c) = flatT (l.set i ((.mk v.1.k v.1.s v.1.n ks v.1.at_ : T), A, c)) := by
  induction l with
  | nil => intro i v ks A c h; simp at h
  | cons x l ih =>
    intro i v ks A c h
    have e : flatT (x :: l) = TP.cs x ++ flatT l := rfl
    have hl : (TP.cs x).length = 5 := rfl
    cases i with
    | zero =>
      obtain rfl : x = v := by simpa using h
      rw [e, List.set_append_left _ _ (by omega), List.set_cons_zero]
      rfl
    | succ i =>
      rw [e, List.set_append_right _ _ (by omega), hl, show (i + 1) * 5 + 3 - 5 = i * 5 + 3 by omega, ih i v ks A c (by simpa using h), List.set_cons_succ]
      rfl
theorem own_set_kids {w : World} {base : Nat} {e : TypeId} {g cap m : Nat} {ps : List TP} (h : w.ownsRow base e 5 (.slice (some ⟨g, 0, none⟩) m cap) m (flatT ps)) {i : Nat} {p : TP} (hi : ps[i]? = some p) (ks : List T) (A : Option Addr) (c : Nat) :
    (w.setCell ⟨g, i * 5 + 3, none⟩ (.slice A ks.length c)).ownsRow base e 5 (.slice (some ⟨g, 0, none⟩) m cap) m (flatT (ps.set i ((.mk p.1.k p.1.s p.1.n ks p.1.at_ : T), A, c))) := by
  obtain ⟨h1, h2⟩ := h
  have hlen := flatT_len ps
  refine ⟨by rw [flatT_len, List.length_set, ← hlen]; exact h1, .inr ?_⟩
  rcases h2 with ⟨h', _⟩ | ⟨g', cap', cur, h', hb, hg, hnc, hcm, hcs, htake⟩
  · simp at h'
  · simp only [Value.slice.injEq, Option.some.injEq, Addr.mk.injEq, and_true, true_and] at h'
    obtain ⟨rfl, rfl⟩ := h'
    refine ⟨g, cap, cur.setIfInBounds (i * 5 + 3) (.slice A ks.length c), rfl, hb, Blk.set_ hg _ _, hnc, hcm, by simpa using hcs, ?_⟩
    rw [Array.toList_setIfInBounds, List.take_set, htake, flatT_set ps i p ks A c hi]
theorem own_take {w : World} {base : Nat} {e : TypeId} {g cap m : Nat} {ps : List TP} (h : w.ownsRow base e 5 (.slice (some ⟨g, 0, none⟩) m cap) m (flatT ps)) (hm : ps.length = m) {k : Nat} (hk : k ≤ m) :
    w.ownsRow base e 5 (.slice (some ⟨g, 0, none⟩) k cap) k (flatT (ps.take k)) := by
  obtain ⟨h1, h2⟩ := h
  refine ⟨by rw [flatT_len, List.length_take]; congr 1; omega, .inr ?_⟩
  rcases h2 with ⟨h', _⟩ | ⟨g', cap', cur, h', hb, hg, hnc, hcm, hcs, htake⟩
  · simp at h'
  · simp only [Value.slice.injEq, Option.some.injEq, Addr.mk.injEq, and_true, true_and] at h'
    obtain ⟨rfl, rfl⟩ := h'
    refine ⟨g, cap, cur, rfl, hb, hg, by omega, hcm, hcs, ?_⟩
    have e1 : flatT ps = flatT (ps.take k) ++ flatT (ps.drop k) := by rw [← flatT_append, List.take_append_drop]
    have e2 : (flatT (ps.take k)).length = k * 5 := by rw [flatT_len, List.length_take]; congr 1; omega
    have e3 : List.take (k * 5) cur.toList = List.take (k * 5) (List.take (m * 5) cur.toList) := by rw [List.take_take]; congr 1; omega
    rw [e3, htake, e1, List.take_left' e2]
theorem cell5 {w : World} {g : Nat} {a b c d e : Value} {t : TypeId} (h : w.heap[g]? = some (.cells #[a, b, c, d, e] t (0, 0))) :
    (w.cell? ⟨g, 0, none⟩ = some a ∧ w.cell? ⟨g, 1, none⟩ = some b ∧ w.cell? ⟨g, 2, none⟩ = some c ∧ w.cell? ⟨g, 3, none⟩ = some d ∧ w.cell? ⟨g, 4, none⟩ = some e) ∧ w.frozen? ⟨g, 0, none⟩ = false ∧ w.frozen? ⟨g, 1, none⟩ = false ∧ w.frozen? ⟨g, 2, none⟩ = false ∧ w.frozen? ⟨g, 3, none⟩ = false ∧ w.frozen? ⟨g, 4, none⟩ = false := by
  simp [World.cell?, World.frozen?, h]
theorem set5c {w : World} {g k : Nat} {a b c d e u : Value} {t : TypeId} (h : w.heap[g]? = some (.cells #[a, b, c, d, e] t (0, 0))) : (w.setCell ⟨g, k, none⟩ u).heap[g]? = some (.cells (#[a, b, c, d, e].set! k u) t (0, 0)) := by
  show (w.heap.modify g _)[g]? = _
  rw [Array.getElem?_modify]
  simp [h]
def put5 (w : World) (p : Nat) (x0 x1 x2 x3 x4 : Value) : World := ((((w.setCell ⟨p, 0, none⟩ x0).setCell ⟨p, 1, none⟩ x1).setCell ⟨p, 2, none⟩ x2).setCell ⟨p, 3, none⟩ x3).setCell ⟨p, 4, none⟩ x4
theorem put5_block {w : World} {p : Nat} {a b c d e x0 x1 x2 x3 x4 : Value} {t : TypeId} (h : w.heap[p]? = some (.cells #[a, b, c, d, e] t (0, 0))) : (put5 w p x0 x1 x2 x3 x4).heap[p]? = some (.cells #[x0, x1, x2, x3, x4] t (0, 0)) :=
  set5c (k := 4) (set5c (k := 3) (set5c (k := 2) (set5c (k := 1) (set5c (k := 0) h))))
theorem put5_below {w a : World} {p B : Nat} {x0 x1 x2 x3 x4 : Value} (h : Below B a w) (hp : B ≤ p) : Below B a (put5 w p x0 x1 x2 x3 x4) :=
  ((((h.setCell (p := ⟨p, 0, none⟩) hp x0).setCell (p := ⟨p, 1, none⟩) hp x1).setCell (p := ⟨p, 2, none⟩) hp x2).setCell (p := ⟨p, 3, none⟩) hp x3).setCell (p := ⟨p, 4, none⟩) hp x4
theorem own_below {w w' : World} {B n : Nat} {e : TypeId} {z : Nat} {v : Value} {xs : List Value} (h : w.ownsRow B e z v n xs) (hb : Below w.heap.size w w') : w'.ownsRow B e z v n xs := by
  refine ⟨h.1, ?_⟩
  rcases h.2 with hn | ⟨g, cap, cur, rfl, hg, hgg, rest⟩
  · exact .inl hn
  · exact .inr ⟨g, cap, cur, rfl, hg, by rw [hb.block g (Array.getElem?_eq_some_iff.1 hgg).1]; exact hgg, rest⟩
end Go.Proofs.YtldleckgkgeclaaDoor
