/-
  Package wire's writer: numbers of each size, texts, the beginning and the end.
-/
import Derived.Test.YtabhkfpglhfiiaaDoorWriter
import Derived.Lib.AppendStr
import Derived.Lib.SliceRun
namespace Go.Proofs.YtabhkfpglhfiiaaDoor
open Go.RowKit
/-- the lowest bytes of a number of either sign -/
def leI (n : Int) (k : Nat) : List UInt8 := le (IntKind.u64.wrap n).toNat k
theorem leI_len (n : Int) (k : Nat) : (leI n k).length = k := le_len k _
def textB (s : ByteArray) : List UInt8 := leI s.size 2 ++ s.data.toList
theorem textB_len (s : ByteArray) : (textB s).length = 2 + s.size := by
  rw [textB, List.length_append, leI_len]; rfl
theorem strCells_u8s (s : ByteArray) : Lib.strCells s = u8s s.data.toList := rfl
theorem wrap_u64_range (n : Int) : 0 ≤ IntKind.u64.wrap n ∧ IntKind.u64.wrap n < 18446744073709551616 := by
  have e : IntKind.u64.wrap n = n % 18446744073709551616 := by simp [IntKind.wrap, IntKind.bits, IntKind.signed]
  rw [e]
  omega

theorem wByte (S : Nat → Prop) (g : Nat) (bs : List UInt8) (n : Int) (hb : bs.length ≤ 1099511627776) (w : World) (hW : Wr w S g bs) (hS : ∀ k, w.heap.size ≤ k → S k) :
    Calls Tryd.prog 32 #[.pointer (some ⟨g, 0, none⟩), .int .i64 n] w fun e w' => e = .returned (.tuple #[]) ∧ Wr w' S g (bs ++ leI n 1) ∧ Out S w w' := by
  obtain ⟨h1, h2⟩ := wrap_u64_range n
  have hp := Lib.hid (put_int S g bs _ 1 1 rfl h1 h2 (by omega) hb w hW hS)
  clear hW hb hS h1 h2
  unfold leI
  go_enter Tryd.func32, Tryd.ntmps32
  go_wp2_with fail
  refine hp.out.mono ?_
  rintro e w1 ⟨rfl, h1, h2⟩
  go_wp2
  refine bodyPost_end (results_none rfl _ _ _) rfl ?_
  exact ⟨rfl, h1, h2⟩

theorem wShort (S : Nat → Prop) (g : Nat) (bs : List UInt8) (n : Int) (hb : bs.length ≤ 1099511627776) (w : World) (hW : Wr w S g bs) (hS : ∀ k, w.heap.size ≤ k → S k) :
    Calls Tryd.prog 50 #[.pointer (some ⟨g, 0, none⟩), .int .i64 n] w fun e w' => e = .returned (.tuple #[]) ∧ Wr w' S g (bs ++ leI n 2) ∧ Out S w w' := by
  obtain ⟨h1, h2⟩ := wrap_u64_range n
  have hp := Lib.hid (put_int S g bs _ 2 2 rfl h1 h2 (by omega) hb w hW hS)
  clear hW hb hS h1 h2
  unfold leI
  go_enter Tryd.func50, Tryd.ntmps50
  go_wp2_with fail
  refine hp.out.mono ?_
  rintro e w1 ⟨rfl, h1, h2⟩
  go_wp2
  refine bodyPost_end (results_none rfl _ _ _) rfl ?_
  exact ⟨rfl, h1, h2⟩

theorem wLong (S : Nat → Prop) (g : Nat) (bs : List UInt8) (n : Int) (hb : bs.length ≤ 1099511627776) (w : World) (hW : Wr w S g bs) (hS : ∀ k, w.heap.size ≤ k → S k) :
    Calls Tryd.prog 33 #[.pointer (some ⟨g, 0, none⟩), .int .i64 n] w fun e w' => e = .returned (.tuple #[]) ∧ Wr w' S g (bs ++ leI n 8) ∧ Out S w w' := by
  obtain ⟨h1, h2⟩ := wrap_u64_range n
  have hp := Lib.hid (put_int S g bs _ 8 8 rfl h1 h2 (by omega) hb w hW hS)
  clear hW hb hS h1 h2
  unfold leI
  go_enter Tryd.func33, Tryd.ntmps33
  go_wp2_with fail
  refine hp.out.mono ?_
  rintro e w1 ⟨rfl, h1, h2⟩
  go_wp2
  refine bodyPost_end (results_none rfl _ _ _) rfl ?_
  exact ⟨rfl, h1, h2⟩

section
variable {P : Program}
/-- a string's bytes appended: where the new row lies -/
theorem run_append_str (w : World) (t u ty e : TypeId) (i : TypeInfo) (ht : P.underlying t = some (.slice e)) (hu : P.underlying u = some .string) (hi : P.info? e = some i) (hz : i.zero = some (.int .u8 0))
    (hsize : i.size = 1) (hby : i.bytes = 1) (v : Value) (n : Nat) (xs : List Value) (hown : w.ownsRow 0 e 1 v n xs) (s : ByteArray) (h63 : n + s.size ≤ maxLen) (hbytes : n + s.size ≤ 140737488355328) :
    ∃ v' w', (Builtin.append_ #[t, u] ty #[v, .string s]).run P w = .ok v' w' ∧ w'.ownsRow 0 e 1 v' (n + s.size) (xs ++ Lib.strCells s) ∧ w.grownBy w' v.ownBlock ∧ ∀ k, v'.ownBlock = some k → v.ownBlock = some k ∨ k = w.heap.size := by
  obtain ⟨v', w', hr, h2, h3, h4⟩ := Lib.run_append_own_string (P := P) w 0 t u ty e i ht hu hi hz hsize hby v n xs hown s h63 hbytes (Nat.zero_le _)
  refine ⟨v', w', hr, h2, h3, ?_⟩
  have hsmall : n + s.size ≤ 9223372036854775807 := by simp only [maxLen] at h63; omega
  intro k hk
  have hxl : xs.length = n := by simpa using hown.1
  rcases hown.2 with ⟨rfl, rfl⟩ | ⟨g, cap, cur, rfl, _, hg, hnc, hcm, hcs, htake⟩
  · by_cases hm : s.size = 0
    · rw [h4.2 ⟨rfl, hm⟩] at hk
      exact .inl hk
    · have hr' := run_append_nil_string (P := P) w t u ty e i (.int .u8 0) ht hu hi hz s (by omega) (by omega) (by rw [hby]; omega)
      rw [hr] at hr'
      injection hr' with e1 _
      rw [e1] at hk
      right
      simpa [Value.ownBlock] using hk.symm
  · by_cases hroom : n + s.size ≤ cap
    · have hcs' : cur.size = cap := by simpa using hcs
      have hr' := Lib.run_append_room_string (P := P) w t u ty e i ht hu hi hsize g n cap cur hg s hroom (by omega)
      rw [hr] at hr'
      injection hr' with e1 _
      rw [e1] at hk
      exact .inl hk
    · have holds : ∀ j u, xs[j]? = some u → w.cell? ((⟨g, 0, none⟩ : Addr).add j) = some u := hown.cells (g := g) rfl
      have hr' := Lib.run_append_grow_string (P := P) w t u ty e i (.int .u8 0) ht hu hi hz ⟨g, 0, none⟩ n cap xs (by rw [hsize]; simpa using hxl) holds s (by omega) (by omega) (by rw [hby]; exact growslice_fits (by omega) (by omega))
      rw [hr] at hr'
      injection hr' with e1 _
      rw [e1] at hk
      right
      simpa [Value.ownBlock] using hk.symm
theorem wpList_append_str (w : World) {ops : Array Oper} {rest : List Oper} {o : Oper} {a : Act} {Q : Exit → Act → World → Prop} (hgd : o.guard = none) (sl x : Operand) (t u : TypeId)
    (ho : o.op = .call { callee := .builtin .append, args := #[sl, x], argTypes := #[t, u] }) (e : TypeId) (i : TypeInfo)
    (ht : P.underlying t = some (.slice e)) (hu : P.underlying u = some .string) (hi : P.info? e = some i) (hz : i.zero = some (.int .u8 0)) (hsize : i.size = 1) (hby : i.bytes = 1)
    (v : Value) (n : Nat) (xs : List Value) (hs : a.eval sl = v) (hown : w.ownsRow 0 e 1 v n xs) (s : ByteArray) (hx : a.eval x = .string s) (h63 : n + s.size ≤ maxLen) (hbytes : n + s.size ≤ 140737488355328)
    (h : ∀ v' w', w'.ownsRow 0 e 1 v' (n + s.size) (xs ++ Lib.strCells s) → w.grownBy w' v.ownBlock → (∀ k, v'.ownBlock = some k → v.ownBlock = some k ∨ k = w.heap.size) → wpList P ops Q rest (a.put o.dst v') w') : wpList P ops Q (o :: rest) a w := by
  refine wpList_plain hgd fun K hK => ?_
  obtain ⟨v', w', hr, h2, h3, h4⟩ := run_append_str (P := P) w t u o.type e i ht hu hi hz hsize hby v n xs hown s h63 hbytes
  unfold Oper.wp execOp
  simp only [ho, resolve, invoke, builtin, Sem.run_bind, Sem.run_pure, Result.andThen_ok, List.map_toArray, List.map_cons, List.map_nil, hs, hx, hr]
  exact hK _ _ (h v' w' h2 h3 h4)
end

set_option maxRecDepth 100000 in
theorem wText (S : Nat → Prop) (g : Nat) (bs : List UInt8) (s : ByteArray) (hb : bs.length ≤ 549755813888) (hs : s.size ≤ 549755813888) (w : World) (hW : Wr w S g bs) (hS : ∀ k, w.heap.size ≤ k → S k) :
    Calls Tryd.prog 34 #[.pointer (some ⟨g, 0, none⟩), .string s] w fun e w' => e = .returned (.tuple #[]) ∧ Wr w' S g (bs ++ textB s) ∧ Out S w w' := by
  obtain ⟨i0, hi0, hz0, hz1, hz2⟩ := info_parts u8_info
  have hp := Lib.hid (wShort S g bs s.size (by omega) w hW hS)
  clear hW
  go_enter Tryd.func34, Tryd.ntmps34
  go_wp2_with fail
  refine hp.out.mono ?_
  rintro e w1 ⟨rfl, h1, h2⟩
  obtain ⟨hBg, v, hg, hown, hvS⟩ := h1
  have hl := leI_len (s.size : Int) 2
  rw [List.length_append, hl] at hown
  have hS1 : ∀ k, w1.heap.size ≤ k → S k := fun k hk => hS k (by have := h2.size; omega)
  have hc := cell_of_one hg
  have hf := free_of_one hg
  have HO := Lib.hid hown
  have HG := Lib.hid hg
  have HB1 := Lib.hid h2
  clear hown hg h2 hp
  go_wp2_with (at_builtin; refine wpList_append_str _ rfl _ _ 29 9 rfl 5 i0 Tryd.underlying29 Tryd.underlying9 hi0 hz0 hz1 hz2 _ _ _ rfl HO.out s rfl ?c1 ?c2 ?_)
  case c1 => unfold maxLen; omega
  case c2 => omega
  intro v' w2 hown2 hgrow hlies
  obtain ⟨f1, f2, f4, f5, f6⟩ := Wr.grow hS1 hBg HG.out HO.out hvS (Below.refl _ _) hgrow hown2
  have hvS' : ∀ k, v'.ownBlock = some k → S k := fun k hk => by
    rcases hlies k hk with h | h
    · exact hvS k h
    · exact hS1 k (by omega)
  obtain ⟨h, cap, hv, _⟩ := hown2.form (by omega)
  have hW2 : Wr (w2.setCell ⟨g, 0, none⟩ v') S g (bs ++ textB s) := ⟨hBg, v', f5, by
    rw [textB, ← List.append_assoc, u8s_append (bs ++ _), List.length_append, List.length_append, hl]
    exact f6, hvS'⟩
  have HW2 := Lib.hid hW2
  have HB2 := Lib.hid (HB1.out.trans f4)
  clear hW2 f4 f5 f6 hown2 hgrow HO HG
  rw [hv] at HW2 HB2 ⊢
  clear hv
  go_wp2
  refine bodyPost_end (results_none rfl _ _ _) rfl ?_
  exact ⟨rfl, HW2.out, HB2.out⟩

/-- bytes that stand from a cell of a block on -/
def BAt (w : World) (b o : Nat) (l : List UInt8) : Prop := ∀ i c, l[i]? = some c → w.cell? ⟨b, o + i, none⟩ = some (.int .u8 c.toNat)
theorem BAt.below {w w' : World} {b o : Nat} {l : List UInt8} (h : BAt w b o l) (hw : Below w.heap.size w w') (hb : b < w.heap.size) : BAt w' b o l := by
  intro i c hc
  exact (hw.cell hb).trans (h i c hc)
theorem u8s_get (l : List UInt8) (j : Nat) (u : Value) (h : (u8s l)[j]? = some u) : ∃ c, l[j]? = some c ∧ u = .int .u8 c.toNat := by
  rw [u8s, List.getElem?_map] at h
  cases hc : l[j]? with
  | none => rw [hc] at h; cases h
  | some c => rw [hc] at h; exact ⟨c, rfl, by simpa using h.symm⟩
theorem add_at (b o j : Nat) : (⟨b, o, none⟩ : Addr).add j = ⟨b, o + j, none⟩ := by
  unfold Addr.add
  split
  · subst_vars; rfl
  · rfl
theorem BAt.news {w : World} {b o : Nat} {l : List UInt8} (h : BAt w b o l) (j : Nat) (u : Value) (hu : (u8s l)[j]? = some u) : w.cell? ((⟨b, o, none⟩ : Addr).add j) = some u := by
  obtain ⟨c, hc, rfl⟩ := u8s_get l j u hu
  rw [add_at]
  exact h j c hc
/-- a slice of bytes, nil or not -/
def Bts (w : World) (v : Value) (l : List UInt8) : Prop := (v = .slice none 0 0 ∧ l = []) ∨ ∃ b o c, v = .slice (some ⟨b, o, none⟩) l.length c ∧ l.length ≤ c ∧ b < w.heap.size ∧ BAt w b o l
theorem Bts.below {w w' : World} {v : Value} {l : List UInt8} (h : Bts w v l) (hw : Below w.heap.size w w') : Bts w' v l := by
  rcases h with h | ⟨b, o, c, rfl, h0, h1, h2⟩
  · exact .inl h
  · exact .inr ⟨b, o, c, rfl, h0, by have := hw.size; omega, h2.below hw h1⟩
theorem own_bts {w : World} {B : Nat} {v : Value} {l : List UInt8} (h : w.ownsRow B 5 1 v l.length (u8s l)) : Bts w v l := by
  rcases id h.2 with ⟨rfl, h0⟩ | ⟨g, cap, cur, rfl, _, hh, hle, _, _⟩
  · exact .inl ⟨rfl, List.eq_nil_of_length_eq_zero h0⟩
  · refine .inr ⟨g, 0, cap, rfl, hle, lt_of_block hh, ?_⟩
    intro i c hc
    have := h.cells (g := g) rfl i (.int .u8 c.toNat) (by rw [u8s, List.getElem?_map, hc]; rfl)
    rwa [add_at] at this

theorem clone_any (v : Value) (l : List UInt8) (hl : l.length ≤ 549755813888) (w : World) (h : Bts w v l) :
    Calls Tryd.prog 26 #[v] w fun e w' => ∃ v', e = .returned v' ∧ w'.ownsRow w.heap.size 5 1 v' l.length (u8s l) ∧ Below w.heap.size w w' := by
  obtain ⟨i0, hi0, hz0, hz1, hz2⟩ := info_parts u8_info
  rcases h with ⟨rfl, rfl⟩ | ⟨b, o, c, rfl, hc, hb, hA⟩
  · have hq := Lib.run_eql_slice_nil (P := Tryd.prog) w 29 5 none 0 0 0 0 Tryd.underlying29
    go_enter Tryd.func26, Tryd.ntmps26
    go_wp2
    go_ret
    exact ⟨_, rfl, World.ownsRow_nil w _ _ _, Below.refl _ _⟩
  · have hq := Lib.run_eql_slice_nil (P := Tryd.prog) w 29 5 (some ⟨b, o, none⟩) l.length c 0 0 Tryd.underlying29
    have hlit : Hid ((w.alloc (.cells #[] 5)).ownsRow w.heap.size 5 1 (.slice (some ⟨w.heap.size, 0, none⟩) 0 0) 0 []) := Lib.hid (World.ownsRow_lit w #[] 0 (Nat.le_refl _) (by decide) rfl)
    have hnews : Hid (∀ j u, (u8s l)[j]? = some u → (w.alloc (.cells #[] 5)).cell? ((⟨b, o, none⟩ : Addr).add j) = some u) := Lib.hid (hA.below ((Below.refl _ _).alloc (Nat.le_refl _) _) hb).news
    clear hA
    go_enter Tryd.func26, Tryd.ntmps26
    go_wp2_with (at_builtin; refine wpList_append_own _ rfl _ _ 29 rfl w.heap.size 5 i0 _ 1 1 Tryd.underlying29 hi0 hz0 hz1 hz2 rfl (by decide) _ _ _ rfl hlit.out ⟨b, o, none⟩ l.length c (u8s l) rfl ?c1 hnews.out ?c2 ?c3 ?c4 ?c5 ?_)
    case c1 => rw [u8s_len]; omega
    case c2 => exact u8s_ones _
    case c3 => unfold maxLen; omega
    case c4 => omega
    case c5 => simp
    intro v' w2 hown hgrow _
    have hB := (((Below.refl w.heap.size w).alloc (Nat.le_refl _) (.cells #[] 5)).grown hgrow (by simp) (fun g hg => by simp [Value.ownBlock] at hg; omega))
    try rw [Nat.zero_add] at hown
    try rw [List.nil_append] at hown
    go_wp2
    go_ret
    exact ⟨_, rfl, hown, hB⟩

theorem wDone (S : Nat → Prop) (g : Nat) (bs : List UInt8) (hb : bs.length ≤ 549755813888) (w : World) (hW : Wr w S g bs) :
    Calls Tryd.prog 24 #[.pointer (some ⟨g, 0, none⟩)] w fun e w' => ∃ v', e = .returned v' ∧ w'.ownsRow w.heap.size 5 1 v' bs.length (u8s bs) ∧ Below w.heap.size w w' := by
  obtain ⟨hBg, v, hg, hown, hvS⟩ := hW
  have hc := cell_of_one hg
  have hf := free_of_one hg
  have hp := Lib.hid (clone_any v bs hb w (own_bts hown))
  clear hg hown
  go_enter Tryd.func24, Tryd.ntmps24
  go_wp2_with fail
  refine hp.out.mono ?_
  rintro e w1 ⟨v', rfl, h1, h2⟩
  go_wp2
  go_ret
  exact ⟨_, rfl, h1, h2⟩

theorem newWriter (S : Nat → Prop) (w : World) (hS : S w.heap.size) :
    Calls Tryd.prog 17 #[] w fun e w' => e = .returned (.pointer (some ⟨w.heap.size, 0, none⟩)) ∧ Wr w' S w.heap.size [] ∧ Below w.heap.size w w' := by
  go_enter Tryd.func17, Tryd.ntmps17
  go_wp2
  go_ret
  refine ⟨rfl, ⟨hS, .slice none 0 0, ?_, World.ownsRow_nil _ _ _ _, by simp [Value.ownBlock]⟩, (Below.refl _ _).alloc (Nat.le_refl _) _⟩
  exact heap_alloc_new w _

end Go.Proofs.YtabhkfpglhfiiaaDoor
