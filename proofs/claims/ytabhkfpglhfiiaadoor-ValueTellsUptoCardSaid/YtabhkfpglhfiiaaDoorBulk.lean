/-
  Arguments opened where all that is read is of bounded bulk: rows, columns, bytes. No program in sight.
-/
import Derived.Test.YtabhkfpglhfiiaaDoorArgs
import Derived.Test.YtabhkfpglhfiiaaDoorBytes
import Derived.ChangeSlices
import Derived.Lib.SmallJoins
namespace Go.Proofs.YtabhkfpglhfiiaaDoor
open Go.ChangeShapes Go.WideShapes Go.Deep Go.RowKit
namespace Bulk
theorem one_le {H : Type} (d : DataW H) : 1 ≤ Rows.uptoBulk d := by
  cases d with
  | lit l => cases l <;> simp [Rows.uptoBulk]
  | nil => simp [Rows.uptoBulk]
  | ptr d => simp [Rows.uptoBulk]
  | slice elems spare => simp [Rows.uptoBulk]
  | agg parts => simp [Rows.uptoBulk]
  | iface t d => simp [Rows.uptoBulk]
  | map entries => simp [Rows.uptoBulk]
  | held h => simp [Rows.uptoBulk]
theorem part_le {H : Type} {d : DataW H} {l : List (DataW H)} (h : d ∈ l) : Rows.uptoBulk d ≤ Rows.uptoBulkAll l := by
  induction l with
  | nil => cases h
  | cons x r ih =>
    simp only [Rows.uptoBulkAll]
    cases List.mem_cons.1 h with
    | inl e => subst e; omega
    | inr e => have := ih e; omega
theorem length_le {H : Type} (l : List (DataW H)) : l.length ≤ Rows.uptoBulkAll l := by
  induction l with
  | nil => simp [Rows.uptoBulkAll]
  | cons x r ih => have := one_le x; simp only [Rows.uptoBulkAll, List.length_cons]; omega
theorem slice_le {H : Type} (elems spare : List (DataW H)) : elems.length + spare.length + 1 ≤ Rows.uptoBulk (.slice elems spare) := by
  have h1 := length_le elems
  have h2 := length_le spare
  simp only [Rows.uptoBulk]
  omega
theorem slice_part {H : Type} {elems spare : List (DataW H)} {d : DataW H} (h : d ∈ elems ∨ d ∈ spare) : Rows.uptoBulk d ≤ Rows.uptoBulk (.slice elems spare) := by
  simp only [Rows.uptoBulk]
  rcases h with h | h
  · have := part_le h; omega
  · have := part_le h; omega
theorem agg_part {H : Type} {parts : List (DataW H)} {d : DataW H} (h : d ∈ parts) : Rows.uptoBulk d ≤ Rows.uptoBulk (.agg parts) := by
  simp only [Rows.uptoBulk]
  have := part_le h
  omega
theorem string_le {H : Type} {M : Nat} {s : ByteArray} (h : Rows.uptoBulk (DataW.lit (H := H) (.string s.data.toList)) ≤ M) : s.size ≤ M := by
  simp only [Rows.uptoBulk] at h
  have : s.data.toList.length = s.size := rfl
  omega
theorem bound {H : Type} {l : List (DataW H)} (hk : Rows.uptoSmall H l = true) : Rows.uptoBulkAll l ≤ 1048576 := of_decide_eq_true hk
theorem each {H : Type} {l : List (DataW H)} (hk : Rows.uptoSmall H l = true) {d : DataW H} (hd : d ∈ l) : Rows.uptoBulk d ≤ 1048576 := Nat.le_trans (part_le hd) (bound hk)
end Bulk
section
variable {H : Type} {enc : TypeId × Value → H} {P : Program} {w : World} {base : Nat} {held : Bool}
/-- a slice of structs of one-cell fields, with the bulk of its parts -/
theorem open_fieldsB {t e : TypeId} {fs : Array Field} {fuel : Nat} {cs : List Value} {x : DataW H × List MemPlace} (ht : P.underlying t = some (.slice e)) (he : P.underlying e = some (.struct fs))
    (hone : oneCellFields P fs = true) (hC : P.cellsOf e = fs.size) (h : DataW.trod enc P w base (fun _ => true) held fuel t cs = some x) :
    (cs = [.slice none 0 0]) ∨
    ∃ (a : Addr) (len cap : Nat), cs = [.slice (some a) len cap] ∧ len ≤ cap ∧ cap ≤ maxLen ∧ cap + 1 ≤ Rows.uptoBulk x.1 ∧
      ∀ i, i < cap → ∃ (n : Nat), ∀ (j : Nat) (f : Field), fs[j]? = some f → ∃ (v : Value) (y : DataW H × List MemPlace), w.cell? (a.add (i * fs.size + j)) = some v ∧ DataW.trod enc P w base (fun _ => true) held n f.type [v] = some y ∧ Rows.uptoBulk y.1 ≤ Rows.uptoBulk x.1 := by
  rcases open_slice ht h with ⟨h0, _⟩ | ⟨a, len, cap, m, n, D, Pl, hcs, hb, hl, hm, hmm, hx, hi⟩
  · exact .inl h0
  · simp only [if_true] at hmm
    subst hmm
    have hsz : m + 1 ≤ Rows.uptoBulk x.1 := by
      rw [hx]
      show m + 1 ≤ Rows.uptoBulk (DataW.slice _ _)
      have := Bulk.slice_le ((List.range len).map D) ((List.range (m - len)).map fun j => D (len + j))
      simp only [List.length_map, List.length_range] at this
      omega
    have hpart : ∀ i, i < m → Rows.uptoBulk (D i) ≤ Rows.uptoBulk x.1 := by
      intro i him
      rw [hx]
      refine Bulk.slice_part ?_
      by_cases h1 : i < len
      · exact .inl (List.mem_map.2 ⟨i, List.mem_range.2 h1, rfl⟩)
      · exact .inr (List.mem_map.2 ⟨i - len, List.mem_range.2 (by omega), by rw [show len + (i - len) = i from by omega]⟩)
    refine .inr ⟨a, len, m, hcs, hl, hm, hsz, fun i him => ?_⟩
    obtain ⟨cs', hc, ht'⟩ := hi i him
    have hp := hpart i him
    rw [hC] at hc
    obtain ⟨ys, n', hn', hy, hlen, hyl, hf⟩ := DataW.trod_struct he ht'
    obtain ⟨_, hcl, hat⟩ := World.cells?_some hc
    refine ⟨n', fun j f hj => ?_⟩
    obtain ⟨ho, hk⟩ := hone_of hone j f hj
    have hjl : j < fs.size := (Array.getElem?_eq_some_iff.1 hj).1
    have hcell := hat j hjl
    have hv : cs'[j]? = some (cs'[j]'(by omega)) := List.getElem?_eq_getElem (by omega)
    have h1 := hf j f hj
    rw [ho, hk] at h1
    have hone' : (cs'.drop j).take 1 = [cs'[j]'(by omega)] := by
      rw [List.drop_eq_getElem_cons (by omega)]
      rfl
    rw [hone'] at h1
    have hys : ys[j]? = some (ys[j]'(by omega)) := List.getElem?_eq_getElem (by omega)
    refine ⟨_, _, ?_, h1.trans hys, ?_⟩
    · rw [← Go.Deep.add_add, hcell, hv]
    · have hD : D i = .agg (ys.map (·.1)) := congrArg Prod.fst hy
      have := Bulk.agg_part (parts := ys.map (·.1)) (List.mem_map.2 ⟨_, List.mem_of_getElem? hys, rfl⟩)
      rw [← hD] at this
      omega
/-- a row that came in -/
theorem open_rowB {t e : TypeId} {f0 f1 f2 : Field} (ht : P.underlying t = some (.slice e)) (he : P.underlying e = some (.struct #[f0, f1, f2])) (hone : oneCellFields P #[f0, f1, f2] = true) (hC : P.cellsOf e = 3)
    (u0 : P.underlying f0.type = some (.int .i64)) (u1 : P.underlying f1.type = some (.int .i64)) (u2 : P.underlying f2.type = some .string) {M : Nat}
    {A : Option Addr} {len cap : Nat} {d : DataW H} {ps : List MemPlace} (h : DataW.Trod enc P w base (fun _ => true) held t (.slice A len cap) d ps) (hM : Rows.uptoBulk d ≤ M) :
    ∃ l : List V, l.length = len ∧ len ≤ cap ∧ cap ≤ maxLen ∧ cap ≤ M ∧ VRow w w.heap.size A l ∧ (∀ x ∈ l, x.wf) ∧ ∀ x ∈ l, x.s.size ≤ M := by
  obtain ⟨fuel, hf⟩ := h
  simp only [Value.cells] at hf
  rcases open_fieldsB ht he hone hC hf with hcs | ⟨a, len', cap', hcs, hl, hm, hbk, hi⟩
  · simp at hcs
    obtain ⟨rfl, rfl, rfl⟩ := hcs
    exact ⟨[], rfl, Nat.le_refl _, Nat.zero_le _, Nat.zero_le _, .inl rfl, (fun x hx => by cases hx), fun x hx => by cases hx⟩
  · simp at hcs
    obtain ⟨rfl, rfl, rfl⟩ := hcs
    have hbk : cap + 1 ≤ Rows.uptoBulk d := hbk
    obtain ⟨l, hll, hp⟩ : ∃ l : List V, l.length = len ∧ ∀ i x, l[i]? = some x → (x.wf ∧ x.s.size ≤ M) ∧ w.cell? (a.add (i * 3)) = some (.int .i64 x.k) ∧ w.cell? (a.add (i * 3 + 1)) = some (.int .i64 x.n) ∧ w.cell? (a.add (i * 3 + 2)) = some (.string x.s) := by
      refine list_of fun i hil => ?_
      obtain ⟨n, hg⟩ := hi i (by omega)
      obtain ⟨v0, y0, c0, t0, _⟩ := hg 0 f0 rfl
      obtain ⟨v1, y1, c1, t1, _⟩ := hg 1 f1 rfl
      obtain ⟨v2, y2, c2, t2, b2⟩ := hg 2 f2 rfl
      obtain ⟨k, e0, _, wk⟩ := DataW.trod_int u0 t0
      obtain ⟨z, e1, _, wz⟩ := DataW.trod_int u1 t1
      obtain ⟨s, e2, e3, ws⟩ := DataW.trod_string u2 t2
      simp only [List.cons.injEq, and_true] at e0 e1 e2
      subst e0 e1 e2 e3
      exact ⟨⟨k, z, s⟩, ⟨⟨wk, wz, ws⟩, Nat.le_trans (Bulk.string_le b2) hM⟩, c0, c1, c2⟩
    refine ⟨l, hll, hl, hm, by omega, ?_, fun x hx => ?_, fun x hx => ?_⟩
    · rcases Nat.eq_zero_or_pos len with h0 | h0
      · exact .inl (List.eq_nil_of_length_eq_zero (by omega))
      · obtain ⟨x, hx⟩ : ∃ x, l[0]? = some x := ⟨_, List.getElem?_eq_getElem (by omega)⟩
        obtain ⟨_, c0, _, _⟩ := hp 0 x hx
        have c0' : w.cell? a = some (.int .i64 x.k) := by simpa [Addr.add] using c0
        obtain ⟨b, off, spot⟩ := a
        have hsp : spot = none := World.cell?_spot c0'
        subst hsp
        refine .inr ⟨b, off, rfl, block_lt_of_cell c0', fun i y hy => ?_⟩
        obtain ⟨_, d0, d1, d2⟩ := hp i y hy
        rw [add_pos] at d0 d1 d2
        exact ⟨d0, by rw [Nat.add_assoc]; exact d1, by rw [Nat.add_assoc]; exact d2⟩
    · obtain ⟨i, hil, rfl⟩ := List.mem_iff_getElem.1 hx
      exact (hp i _ (List.getElem?_eq_getElem hil)).1.1
    · obtain ⟨i, hil, rfl⟩ := List.mem_iff_getElem.1 hx
      exact (hp i _ (List.getElem?_eq_getElem hil)).1.2
/-- columns that came in -/
theorem open_colsB {t e : TypeId} {f0 f1 : Field} (ht : P.underlying t = some (.slice e)) (he : P.underlying e = some (.struct #[f0, f1])) (hone : oneCellFields P #[f0, f1] = true) (hC : P.cellsOf e = 2)
    (u0 : P.underlying f0.type = some .string) (u1 : P.underlying f1.type = some (.int .i64)) {M : Nat}
    {A : Option Addr} {len cap : Nat} {d : DataW H} {ps : List MemPlace} (h : DataW.Trod enc P w base (fun _ => true) held t (.slice A len cap) d ps) (hM : Rows.uptoBulk d ≤ M) :
    ∃ l : List C, l.length = len ∧ len ≤ cap ∧ cap ≤ maxLen ∧ cap ≤ M ∧ CRow w w.heap.size A l ∧ (∀ x ∈ l, x.wf) ∧ ∀ x ∈ l, x.nm.size ≤ M := by
  obtain ⟨fuel, hf⟩ := h
  simp only [Value.cells] at hf
  rcases open_fieldsB ht he hone hC hf with hcs | ⟨a, len', cap', hcs, hl, hm, hbk, hi⟩
  · simp at hcs
    obtain ⟨rfl, rfl, rfl⟩ := hcs
    exact ⟨[], rfl, Nat.le_refl _, Nat.zero_le _, Nat.zero_le _, .inl rfl, (fun x hx => by cases hx), fun x hx => by cases hx⟩
  · simp at hcs
    obtain ⟨rfl, rfl, rfl⟩ := hcs
    have hbk : cap + 1 ≤ Rows.uptoBulk d := hbk
    obtain ⟨l, hll, hp⟩ : ∃ l : List C, l.length = len ∧ ∀ i x, l[i]? = some x → (x.wf ∧ x.nm.size ≤ M) ∧ w.cell? (a.add (i * 2)) = some (.string x.nm) ∧ w.cell? (a.add (i * 2 + 1)) = some (.int .i64 x.k) := by
      refine list_of fun i hil => ?_
      obtain ⟨n, hg⟩ := hi i (by omega)
      obtain ⟨v0, y0, c0, t0, b0⟩ := hg 0 f0 rfl
      obtain ⟨v1, y1, c1, t1, _⟩ := hg 1 f1 rfl
      obtain ⟨s, e0, e3, ws⟩ := DataW.trod_string u0 t0
      obtain ⟨k, e1, _, wk⟩ := DataW.trod_int u1 t1
      simp only [List.cons.injEq, and_true] at e0 e1
      subst e0 e1 e3
      exact ⟨⟨s, k⟩, ⟨⟨ws, wk⟩, Nat.le_trans (Bulk.string_le b0) hM⟩, c0, c1⟩
    refine ⟨l, hll, hl, hm, by omega, ?_, fun x hx => ?_, fun x hx => ?_⟩
    · rcases Nat.eq_zero_or_pos len with h0 | h0
      · exact .inl (List.eq_nil_of_length_eq_zero (by omega))
      · obtain ⟨x, hx⟩ : ∃ x, l[0]? = some x := ⟨_, List.getElem?_eq_getElem (by omega)⟩
        obtain ⟨_, c0, _⟩ := hp 0 x hx
        have c0' : w.cell? a = some (.string x.nm) := by simpa [Addr.add] using c0
        obtain ⟨b, off, spot⟩ := a
        have hsp : spot = none := World.cell?_spot c0'
        subst hsp
        refine .inr ⟨b, off, rfl, block_lt_of_cell c0', fun i y hy => ?_⟩
        obtain ⟨_, d0, d1⟩ := hp i y hy
        rw [add_pos] at d0 d1
        exact ⟨d0, by rw [Nat.add_assoc]; exact d1⟩
    · obtain ⟨i, hil, rfl⟩ := List.mem_iff_getElem.1 hx
      exact (hp i _ (List.getElem?_eq_getElem hil)).1.1
    · obtain ⟨i, hil, rfl⟩ := List.mem_iff_getElem.1 hx
      exact (hp i _ (List.getElem?_eq_getElem hil)).1.2
/-- bytes that came in -/
theorem open_bytesB {t e : TypeId} (ht : P.underlying t = some (.slice e)) (he : P.underlying e = some (.int .u8)) (hC : P.cellsOf e = 1) {M : Nat}
    {A : Option Addr} {len cap : Nat} {d : DataW H} {ps : List MemPlace} (h : DataW.Trod enc P w base (fun _ => true) held t (.slice A len cap) d ps) (hM : Rows.uptoBulk d ≤ M) :
    ∃ l : List UInt8, l.length = len ∧ len ≤ cap ∧ cap ≤ maxLen ∧ cap ≤ M ∧ BR w A l := by
  obtain ⟨fuel, hf⟩ := h
  simp only [Value.cells] at hf
  rcases open_ints ht he hC hf with ⟨hcs, _⟩ | ⟨a, len', cap', zs, hcs, _, hl, hm, hz, hx, hcell, hwz⟩
  · simp at hcs
    obtain ⟨rfl, rfl, rfl⟩ := hcs
    exact ⟨[], rfl, Nat.le_refl _, Nat.zero_le _, Nat.zero_le _, BR.nil_ _ _⟩
  · simp at hcs
    obtain ⟨rfl, rfl, rfl⟩ := hcs
    simp only [if_true] at hz
    have hd : d = .slice (lits .u8 (zs.take len)) (lits .u8 (zs.drop len)) := congrArg Prod.fst hx
    have hcM : cap ≤ M := by
      have := Bulk.slice_le (lits (H := H) .u8 (zs.take len)) (lits .u8 (zs.drop len))
      rw [← hd] at this
      simp only [lits, List.length_map, List.length_take, List.length_drop] at this
      omega
    have hrange : ∀ i, i < cap → 0 ≤ zs.getD i 0 ∧ zs.getD i 0 ≤ 255 := by
      intro i hi
      have hmem : zs.getD i 0 ∈ zs := by
        rw [List.getD_eq_getElem?_getD, List.getElem?_eq_getElem (by omega)]
        exact List.getElem_mem _
      have := hwz _ hmem
      simpa [Lit.wf, IntKind.min, IntKind.max, IntKind.signed, IntKind.bits] using this
    obtain ⟨l, hll, hp⟩ : ∃ l : List UInt8, l.length = len ∧ ∀ i x, l[i]? = some x → w.cell? (a.add i) = some (.int .u8 x.toNat) := by
      refine list_of fun i hil => ?_
      have h1 := hcell i (by omega)
      obtain ⟨r1, r2⟩ := hrange i (by omega)
      refine ⟨(zs.getD i 0).toNat.toUInt8, ?_⟩
      rw [h1]
      have : ((zs.getD i 0).toNat.toUInt8.toNat : Int) = zs.getD i 0 := by
        rw [UInt8.toNat_ofNat']; omega
      rw [this]
    refine ⟨l, hll, hl, hm, hcM, ?_⟩
    refine ⟨by rw [u8s_len, Nat.mul_one], fun h0 => ⟨a, rfl, block_lt_of_cell (a := a) (v := .int .u8 (zs.getD 0 0)) (by simpa [Addr.add] using hcell 0 (by omega)), fun j u hu => ?_⟩⟩
    obtain ⟨c, hc, rfl⟩ := u8s_get l j u hu
    exact hp j c hc
/-- a value that came in -/
theorem open_value {r : Reach} {b0 : Nat} {spare : Nat → Bool} {t : TypeId} {f0 f1 f2 : Field} {v : Value} {d : DataW H} {p : List MemPlace} (hs : P.underlying t = some (.struct #[f0, f1, f2])) (hone : oneCellFields P #[f0, f1, f2] = true) (hC : P.cellsOf t = 3)
    (u0 : P.underlying f0.type = some (.int .i64)) (u1 : P.underlying f1.type = some (.int .i64)) (u2 : P.underlying f2.type = some .string)
    (hv : Value.okWide P w r b0 t v) (h : DataW.Trod enc P w base spare held t v d p) : ∃ x : V, v = x.val ∧ x.wf ∧ ∀ M, Rows.uptoBulk d ≤ M → x.s.size ≤ M := by
  obtain ⟨v0, v1, v2, y0, y1, y2, n, rfl, rfl, rfl, h0, h1, h2⟩ := Joins.open_agg3 hs hone hC hv h
  obtain ⟨k, e0, _, wk⟩ := DataW.trod_int u0 h0
  obtain ⟨z, e1, _, wz⟩ := DataW.trod_int u1 h1
  obtain ⟨s, e2, e3, ws⟩ := DataW.trod_string u2 h2
  simp only [List.cons.injEq, and_true] at e0 e1 e2
  subst e0 e1 e2 e3
  exact ⟨⟨k, z, s⟩, rfl, ⟨wk, wz, ws⟩, fun M hM => Bulk.string_le (Nat.le_trans (Bulk.agg_part (by simp)) hM)⟩
end
end Go.Proofs.YtabhkfpglhfiiaaDoor
