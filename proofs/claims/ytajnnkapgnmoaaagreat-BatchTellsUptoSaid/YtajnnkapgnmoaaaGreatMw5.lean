/-
  eval.Right of tables that may be.
-/
import Derived.Test.YtajnnkapgnmoaaaGreatMw4
import Derived.Shelf.Sort.Plain
import Derived.Shelf.Slices.CompactS
import Derived.Shelf.Slices.In.SortNone
import Derived.Test.YtajnnkapgnmoaaaGreatProg
import Derived.Lib.SlicesCompact
import Derived.Test.YtajnnkapgnmoaaaGreatMw0
import Derived.Test.YtajnnkapgnmoaaaGreatMw3
set_option linter.unusedVariables false
set_option linter.unusedSimpArgs false
namespace Go.Proofs.YtajnnkapgnmoaaaGreat
open Go.RowKit

def offB (cols : List C) (x : IM) : Bool := !fitsB cols x.r
set_option maxHeartbeats 1000000 in
theorem eright_closure (x : IM) (cA : Option Addr) (cc tb : Nat) (cols : List C) (w : World) (hx : VRow w w.heap.size x.A x.r) (hxl : x.r.length ≤ 1000000) (hc : CRow w w.heap.size cA cols) (hcl : cols.length ≤ 1000000) (h1 : w.cell? ⟨tb, 1, none⟩ = some (.slice cA cols.length cc)) :
    Calls Tryz.prog 64 #[x.val, .pointer (some ⟨tb, 0, none⟩)] w fun e w' => e = .returned (.bool (offB cols x)) ∧ Below w.heap.size w w' := by
  obtain ⟨A1, c1, r1, k1⟩ := x
  simp only [IM.val, offB]
  dsimp only at hx hxl
  have hf := Lib.hid (fun w1 (hb : Below w.heap.size w w1) => fits_any cA A1 cc c1 cols r1 (by omega) (by omega) w1 ((hc.below hb).more hb.size) ((hx.below hb).more hb.size))
  have hp := block_lt_of_cell h1
  generalize fitsB cols r1 = q at hf ⊢
  generalize tal k1 = T1
  generalize r1.length = n1 at hf ⊢
  generalize cols.length = n2 at hf h1
  clear hx hc hxl hcl
  go_enter Tryz.func64, Tryz.ntmps64
  go_wp2_with fail
  refine (hf.out _ ((Below.refl w.heap.size w).alloc (Nat.le_refl _) _)).mono ?_
  rintro e w1 ⟨rfl, hb1⟩
  have HB1 := Lib.hid (((Below.refl w.heap.size w).alloc (Nat.le_refl _) (.cells #[.slice A1 n1 c1, T1] 47)).trans (hb1.mono (by simp)))
  clear hb1
  go_wp2_with fail
  go_ret
  exact ⟨rfl, HB1.out⟩

set_option maxHeartbeats 1000000 in
set_option maxRecDepth 100000 in
theorem indexFunc_off (A : Option Addr) (c : Nat) (l : List IM) (cA : Option Addr) (cc tb : Nat) (cols : List C) (w : World) {S : Nat → Prop} (hA : SRow w S A l) (hS : ∀ k, S k → k < w.heap.size) (hl : l.length ≤ 1073741824) (hrl : ∀ x ∈ l, x.r.length ≤ 1000000) (hc : CRow w w.heap.size cA cols) (hcl : cols.length ≤ 1000000) (h1 : w.cell? ⟨tb, 1, none⟩ = some (.slice cA cols.length cc)) :
    Calls Tryz.prog 87 #[.slice A l.length c, .func (.func 64) #[] #[.pointer (some ⟨tb, 0, none⟩)]] w fun e w' => e = .returned (.int .i64 (idx (offB cols) l 0)) ∧ Below w.heap.size w w' := by
  obtain ⟨n, hn⟩ : ∃ n, l.length = n := ⟨_, rfl⟩
  have HN := Lib.hid hn
  have HA := Lib.hid hA
  have HS := Lib.hid hS
  have HRL := Lib.hid hrl
  have HC := Lib.hid hc
  have hp := block_lt_of_cell h1
  have H1 := Lib.hid h1
  rw [hn] at hl ⊢
  clear hA hS hrl hn hc h1
  go_enter Tryz.func87, Tryz.ntmps87
  go_wp2_with fail
  go_loopw [8] (fun i wr => ∃ k : Nat, k ≤ n ∧ i = .int .i64 k ∧ Below w.heap.size w wr ∧ Hid (idx (offB cols) l 0 = idx (offB cols) (l.drop k) k)) (fun i _ => n - (intOf i).toNat)
  case atStart => exact ⟨0, Nat.zero_le _, rfl, Below.refl _ _, Lib.hid (by simp)⟩
  case round =>
    obtain ⟨k, hk, rfl, hb, HL⟩ := hrel
    have HB := Lib.hid hb
    have hs := hb.size
    clear hb
    by_cases hlt : k < n
    · obtain ⟨x, hx⟩ : ∃ x, l[k]? = some x := ⟨_, List.getElem?_eq_getElem (by rw [HN.out]; exact hlt)⟩
      obtain ⟨b1, off1, rfl, _, hc1, hc2⟩ := (HA.out.below HB.out HS.out).get hx
      have hm := List.mem_of_getElem? hx
      have hq := Lib.hid (eright_closure x cA cc tb cols wr ((((HA.out.rows x hm).to HS.out).below HB.out).more HB.out.size) (HRL.out x hm) ((HC.out.below HB.out).more HB.out.size) hcl ((HB.out.cell hp).trans H1.out))
      have HD := Lib.hid (HL.out.trans (idx_step (p := offB cols) hx))
      generalize offB cols x = z at hq HD
      obtain ⟨xA, xc, xr, xk⟩ := x
      simp only [IM.val] at hq
      dsimp only at hc1 hc2
      generalize xr.length = xn at hc1 hq
      clear hx hm HL
      cases z
      · go_wp2_with fail
        refine (hq.out).mono ?_
        rintro e w3 ⟨rfl, hb3⟩
        have HB4 := Lib.hid (HB.out.trans (hb3.mono hs))
        have HL4 : Hid (idx (offB cols) l 0 = idx (offB cols) (l.drop (k + 1)) (k + 1)) := Lib.hid (by rw [HD.out]; rfl)
        clear hb3 HD
        go_wp2_with fail
        go_roundw
        case rel => exact ⟨k + 1, by omega, by go_num, HB4.out, HL4⟩
        case measure => simp [intOf]; omega
      · go_wp2_with fail
        refine (hq.out).mono ?_
        rintro e w3 ⟨rfl, hb3⟩
        have HB4 := Lib.hid (HB.out.trans (hb3.mono hs))
        have HF : Hid (idx (offB cols) l 0 = (k : Int)) := Lib.hid (by rw [HD.out]; rfl)
        clear hb3 HD
        go_wp2_with fail
        go_ret
        exact ⟨by rw [HF.out]; rfl, HB4.out⟩
    · obtain rfl : k = n := by omega
      have HF : Hid (idx (offB cols) l 0 = -1) := Lib.hid (by
        rw [HL.out, List.drop_of_length_le (by rw [HN.out]; exact Nat.le_refl _)]
        rfl)
      go_wp2_with fail
      go_ret
      exact ⟨by rw [HF.out]; rfl, HB.out⟩
set_option maxHeartbeats 1000000 in
theorem containsFunc_off (A : Option Addr) (c : Nat) (l : List IM) (cA : Option Addr) (cc tb : Nat) (cols : List C) (w : World) {S : Nat → Prop} (hA : SRow w S A l) (hS : ∀ k, S k → k < w.heap.size) (hl : l.length ≤ 1073741824) (hrl : ∀ x ∈ l, x.r.length ≤ 1000000) (hc : CRow w w.heap.size cA cols) (hcl : cols.length ≤ 1000000) (h1 : w.cell? ⟨tb, 1, none⟩ = some (.slice cA cols.length cc)) :
    Calls Tryz.prog 45 #[.slice A l.length c, .func (.func 64) #[] #[.pointer (some ⟨tb, 0, none⟩)]] w fun e w' => e = .returned (.bool (l.any (offB cols))) ∧ Below w.heap.size w w' := by
  have h := Lib.hid (indexFunc_off A c l cA cc tb cols w hA hS hl hrl hc hcl h1)
  rw [← idx_nonneg_any (offB cols) l 0]
  generalize idx (offB cols) l 0 = z at h
  generalize l.length = n at h
  clear hA hS hl hrl hc hcl h1
  go_enter Tryz.func45, Tryz.ntmps45
  go_wp2_with fail
  refine h.out.mono ?_
  rintro e w4 ⟨rfl, hb4⟩
  have HB4 := Lib.hid hb4
  clear hb4
  go_wp2
  go_ret
  exact ⟨rfl, HB4.out⟩

/-- tables that may be -/
structure TabsOk (s : List TM) : Prop where
  len : s.length ≤ 1000000
  defs : defsE (s.map TM.dkey) = 0
  clen : ∀ t ∈ s, t.cols.length ≤ 1000000
  rlen : ∀ t ∈ s, t.rows.length ≤ 1000000
  set : ∀ t ∈ s, SOk t.rows
  plain : ∀ t ∈ s, ∀ x ∈ t.rows, 0 ≤ x.k
  fits : ∀ t ∈ s, ∀ x ∈ t.rows, fitsB t.cols x.r = true

set_option maxHeartbeats 2000000 in
set_option maxRecDepth 100000 in
theorem eright_any (A : Option Addr) (c : Nat) (l : List TM) (w : World) {S : Nat → Prop} (hA : TRow w S A l) (hS : ∀ k, S k → k < w.heap.size) (hk : TabsOk l) :
    Calls Tryz.prog 31 #[.slice A l.length c] w fun e w' => e = .returned (.bool true) ∧ Below w.heap.size w w' := by
  have hdf := Lib.hid (edefs_any A c l w hA hS hk.len hk.clen)
  have hcd := Lib.hid (fun A' c' s w1 (h1 : s.length ≤ c') (h2 : DRow w1 (NewS w w1) A' s) (h3 : s.map DM.key = l.map TM.dkey) => cdefs_any A' c' s w1 h2 (fun k hk => hk.2.1) (by have := congrArg List.length h3; simp at this; have := hk.len; omega) h1 (fun t ht => by
    have : t.key ∈ l.map TM.dkey := by rw [← h3]; exact List.mem_map.2 ⟨t, ht, rfl⟩
    obtain ⟨x, hx, e⟩ := List.mem_map.1 this
    have e2 : x.cols = t.cols := congrArg Prod.snd e
    rw [← e2]; exact hk.clen x hx))
  have HE : Hid (∀ s : List DM, s.map DM.key = l.map TM.dkey → defsE (s.map DM.key) = 0) := Lib.hid (fun s h => by rw [h]; exact hk.defs)
  obtain ⟨n, hn⟩ : ∃ n, l.length = n := ⟨_, rfl⟩
  have HN := Lib.hid hn
  have HA := Lib.hid hA
  have HS := Lib.hid hS
  have HK := Lib.hid hk
  have hl := hk.len
  rw [hn] at hl hdf ⊢
  clear hA hS hk hn
  go_enter Tryz.func31, Tryz.ntmps31
  go_wp2_with fail
  refine hdf.out.mono ?_
  rintro e w1 ⟨⟨A', c', s, rfl, h1, h2, h3⟩, hb1⟩
  have hq := Lib.hid (hcd.out A' c' s w1 h1 h2 h3)
  have h0 := HE.out s h3
  rw [h0] at hq
  have HB1 := Lib.hid hb1
  generalize s.length = sn at hq ⊢
  clear h1 h2 h3 h0 hb1 hcd hdf
  go_wp2_with fail
  refine hq.out.mono ?_
  rintro e w2 ⟨rfl, hb2⟩
  have HB2 := Lib.hid (HB1.out.trans (hb2.mono HB1.out.size))
  clear hb2 hq HB1 w1
  go_wp2_with fail
  go_loopw [11] (fun i wr => ∃ k : Nat, k ≤ n ∧ i = .int .i64 k ∧ Below w.heap.size w wr) (fun i _ => n - (intOf i).toNat)
  case atStart => exact ⟨0, Nat.zero_le _, rfl, HB2.out⟩
  case round =>
    rename World => wo
    obtain ⟨k, hk, rfl, hb⟩ := hrel
    have HB := Lib.hid hb
    have hs := hb.size
    clear hb
    by_cases hlt : k < n
    · obtain ⟨x, hx⟩ : ∃ x, l[k]? = some x := ⟨_, List.getElem?_eq_getElem (by rw [HN.out]; exact hlt)⟩
      obtain ⟨b, off, rfl, hSb, hc1, hc2, hc3⟩ := (HA.out.below HB.out HS.out).get hx
      have hm := List.mem_of_getElem? hx
      have hpl := Lib.hid (fun w1 (hb : Below w.heap.size w w1) => zplain_any x.rA x.rc x.rows w1 (S := fun k => k < w1.heap.size) (((HA.out.rows x hm).below hb HS.out).mono fun k hk => Nat.lt_of_lt_of_le (HS.out k hk) hb.size) (fun k hk => hk) (by have := HK.out.rlen x hm; omega) (HK.out.set x hm))
      have hcf := Lib.hid (fun tb w1 (hb : Below w.heap.size w w1) (h1 : w1.cell? ⟨tb, 1, none⟩ = some (.slice x.cA x.cols.length x.cc)) => containsFunc_off x.rA x.rc x.rows x.cA x.cc tb x.cols w1 (S := fun k => k < w1.heap.size) (((HA.out.rows x hm).below hb HS.out).mono fun k hk => Nat.lt_of_lt_of_le (HS.out k hk) hb.size) (fun k hk => hk) (by have := HK.out.rlen x hm; omega)
        (fun y hy => by have := rowOk_len ((HK.out.set x hm).row hy); omega) (((HA.out.cols x hm).kept fun k hk => hb.block k (HS.out k hk)).to fun k hk => Nat.lt_of_lt_of_le (HS.out k hk) hb.size) (HK.out.clen x hm) h1)
      have q1 : x.rows.any neg1 = false := by
        rw [List.any_eq_false]
        intro y hy
        have := HK.out.plain x hm y hy
        unfold neg1
        simp; omega
      have q2 : x.rows.any (offB x.cols) = false := by
        rw [List.any_eq_false]
        intro y hy
        have := HK.out.fits x hm y hy
        unfold offB
        simp [this]
      rw [q1] at hpl
      rw [q2] at hcf
      obtain ⟨xnm, xcA, xcc, xcl, xrA, xrc, xrl⟩ := x
      dsimp only at hc1 hc2 hc3 hpl hcf
      generalize xcl.length = xn at hc2 hcf
      generalize xrl.length = xm at hc3 hcf hpl
      clear hx hm hSb q1 q2
      go_wp2_with fail
      refine (hpl.out _ (HB.out.alloc hs _)).mono ?_
      rintro e w3 ⟨rfl, hb3⟩
      have x1 : w3.cell? ⟨wo.heap.size, 1, none⟩ = some (.slice xcA xn xcc) := (hb3.cell (by simp)).trans (by simp)
      have x2 : w3.cell? ⟨wo.heap.size, 2, none⟩ = some (.slice xrA xm xrc) := (hb3.cell (by simp)).trans (by simp)
      have hx3 : wo.heap.size < w3.heap.size := by have := hb3.size; simp at this; omega
      have HB3 := Lib.hid ((HB.out.alloc hs (.cells #[.string xnm, .slice xcA xn xcc, .slice xrA xm xrc] 44)).trans (hb3.mono (by simp; omega)))
      have hq := Lib.hid (hcf.out wo.heap.size w3 HB3.out x1)
      clear hb3 hpl hcf x1
      go_wp2_with fail
      refine hq.out.mono ?_
      rintro e w4 ⟨rfl, hb4⟩
      have HB4 := Lib.hid (HB3.out.trans (hb4.mono HB3.out.size))
      clear hb4 hq x2
      go_wp2_with fail
      go_roundw
      case rel => exact ⟨k + 1, by omega, by go_num, HB4.out⟩
      case measure => simp [intOf]; omega
    · obtain rfl : k = n := by omega
      go_wp2_with fail
      go_ret
      exact ⟨rfl, HB.out⟩
end Go.Proofs.YtajnnkapgnmoaaaGreat
/-
  Changes of tables, as plain lists. No Go in sight.
-/
namespace Go.Proofs.YtajnnkapgnmoaaaGreat

/-- a row so often more, in a right set -/
def addS : List It → List V → Int → List It
  | [], r, k => [(r, k)]
  | x :: l, r, k => if cmpR x.1 r < 0 then x :: addS l r k else if eqR x.1 r = true then (if x.2 + k = 0 then l else (x.1, x.2 + k) :: l) else (r, k) :: x :: l
theorem addS_mem : ∀ (l : List It) (r : List V) (k : Int) (y : It), y ∈ addS l r k → y.1 = r ∨ ∃ z ∈ l, y.1 = z.1
  | [], r, k, y, h => by
    obtain rfl : y = (r, k) := by simpa [addS] using h
    exact .inl rfl
  | x :: l, r, k, y, h => by
    unfold addS at h
    split at h
    · rcases List.mem_cons.1 h with rfl | h
      · exact .inr ⟨y, by simp, rfl⟩
      · rcases addS_mem l r k y h with h | ⟨z, hz, e⟩
        · exact .inl h
        · exact .inr ⟨z, by simp [hz], e⟩
    · split at h
      · split at h
        · exact .inr ⟨y, by simp [h], rfl⟩
        · rcases List.mem_cons.1 h with rfl | h
          · exact .inr ⟨x, by simp, rfl⟩
          · exact .inr ⟨y, by simp [h], rfl⟩
      · rcases List.mem_cons.1 h with rfl | h
        · exact .inl rfl
        · exact .inr ⟨y, h, rfl⟩
theorem SetOk.cons {x : It} {l : List It} (h : SetOk l) (hx : rowOk x.1 = true) (h0 : x.2 ≠ 0) (hl : ∀ y ∈ l, cmpR x.1 y.1 < 0) : SetOk (x :: l) :=
  ⟨⟨List.pairwise_cons.2 ⟨hl, h.ord⟩, fun y hy => by
    rcases List.mem_cons.1 hy with rfl | hy
    · exact hx
    · exact h.rows y hy⟩, fun y hy => by
    rcases List.mem_cons.1 hy with rfl | hy
    · exact h0
    · exact h.nets y hy⟩
theorem eqR_self (r : List V) : eqR r r = true := (eqR_iff _ _).2 rfl
theorem eqR_comm (a b : List V) : eqR a b = eqR b a := by
  cases h : eqR a b with
  | true => rw [(eqR_iff _ _).1 h]; exact (eqR_self _).symm
  | false =>
    cases h2 : eqR b a with
    | false => rfl
    | true => rw [(eqR_iff _ _).1 h2, eqR_self] at h; cases h
theorem addS_ok : ∀ {l : List It} {r : List V} {k : Int}, SetOk l → rowOk r = true → k ≠ 0 → SetOk (addS l r k)
  | [], r, k, h, hr, hk => SetOk.nil.cons hr hk (fun y hy => by simp at hy)
  | x :: l, r, k, h, hr, hk => by
    have hx := h.rows x (by simp)
    unfold addS
    split
    · rename_i hlt
      refine (addS_ok h.tail hr hk).cons hx (h.nets x (by simp)) fun y hy => ?_
      rcases addS_mem l r k y hy with e | ⟨z, hz, e⟩
      · rw [e]; exact hlt
      · rw [e]; exact h.toOrd.head z hz
    · rename_i hlt
      split
      · split
        · exact h.tail
        · exact h.tail.cons hx (by assumption) h.toOrd.head
      · rename_i hne
        have hgt : cmpR r x.1 < 0 := by
          rcases cmpR_tri x.1 r (rowOk_all hx) (rowOk_all hr) with h1 | h1 | h1
          · omega
          · omega
          · exact absurd ((eqR_iff _ _).2 h1.2.2) hne
        refine h.cons hr hk fun y hy => ?_
        rcases List.mem_cons.1 hy with rfl | hy
        · exact hgt
        · exact cmp_trans hr hx (h.rows y (by simp [hy])) hgt (h.toOrd.head y hy)
theorem look_addS : ∀ {l : List It} {r : List V} {k : Int} (q : List V), look (addS l r k) q = look l q + if eqR r q = true then k else 0
  | [], r, k, q => by simp [addS, look]
  | x :: l, r, k, q => by
    unfold addS
    split
    · simp only [look, look_addS (l := l) q]; omega
    · split
      · rename_i he
        have e := (eqR_iff _ _).1 he
        split
        · simp only [look, e]
          split <;> omega
        · simp only [look, e]
          split <;> omega
      · simp only [look]; omega
/-- a right set is the sum, if it looks so -/
theorem addS_eq {a l : List It} {r : List V} {k : Int} (ha : SetOk a) (hl : SetOk l) (hr : rowOk r = true) (hk : k ≠ 0) (h : ∀ q, look a q = look l q + if eqR r q = true then k else 0) : a = addS l r k :=
  set_eq ha (addS_ok hl hr hk) fun q => (h q).trans (look_addS q).symm
theorem addS_vol {l : List It} {r : List V} {k : Int} (hl : SetOk l) (hr : rowOk r = true) (hk : k ≠ 0) : vol (addS l r k) ≤ vol l + k.natAbs := by
  have := SetOk.vol_le (addS_ok hl hr hk).toOrd (l := l ++ [(r, k)]) (fun q => by rw [look_addS, look_append, look_one])
  rw [vol_append] at this
  have e : vol [(r, k)] = (k.natAbs : Int) + 0 := rfl
  omega
theorem len_vol : ∀ {l : List It}, (∀ x ∈ l, x.2 ≠ 0) → (l.length : Int) ≤ vol l
  | [], _ => Int.le_refl _
  | x :: l, h => by
    have := len_vol (l := l) fun y hy => h y (by simp [hy])
    have := h x (by simp)
    simp only [vol, List.length_cons]
    omega
/-- the sum of two right sets -/
def sumS (a b : List It) : List It := b.foldl (fun s x => addS s x.1 x.2) a
theorem sumS_both : ∀ {b a : List It}, SetOk a → SetOk b → SetOk (sumS a b) ∧ ∀ q, look (sumS a b) q = look a q + look b q
  | [], a, ha, _ => ⟨ha, fun q => by simp [sumS, look]⟩
  | x :: b, a, ha, hb => by
    have h1 := addS_ok ha (hb.rows x (by simp)) (hb.nets x (by simp))
    obtain ⟨h2, h3⟩ := sumS_both h1 hb.tail
    refine ⟨h2, fun q => ?_⟩
    show look (sumS (addS a x.1 x.2) b) q = _
    rw [h3, look_addS]
    simp only [look]
    omega
theorem sumS_eq {s a b : List It} (hs : SetOk s) (ha : SetOk a) (hb : SetOk b) (h : ∀ q, look s q = look a q + look b q) : s = sumS a b :=
  set_eq hs (sumS_both ha hb).1 fun q => (h q).trans ((sumS_both ha hb).2 q).symm

/-- a table: name, columns, rows -/
abbrev Key := ByteArray × List C × List It
/-- a change -/
structure Ch where
  nm : ByteArray
  r : List V
  rem : Bool
def Key.isB (nm : ByteArray) (t : Key) : Bool := t.1.toList == nm.toList
def fullK : Int → List It → Bool
  | _, [] => false
  | n, x :: l => if 64 ≤ n + x.2 then true else fullK (n + x.2) l
theorem fullK_its : ∀ (l : List IM) (n : Int), fullL n l = fullK n (its l)
  | [], n => rfl
  | x :: l, n => by
    show (if 64 ≤ n + x.k then true else fullL (n + x.k) l) = (if 64 ≤ n + x.k then true else fullK (n + x.k) (its l))
    rw [fullK_its l]
def hitK (t : Key) (r : List V) (rem : Bool) : Int := if fitsB t.2.1 r = false then 22 else if rem = true then (if look t.2.2 r = 0 then 25 else 0) else (if fullK 0 t.2.2 = true then 13 else 0)
theorem hitK_key (t : TM) (r : List V) (rem : Bool) : hitE t r rem = hitK t.key r rem := by
  unfold hitE hitK
  rw [fullK_its]
  rfl
def netOf (rem : Bool) : Int := if rem = true then -1 else 1
def findK (nm : ByteArray) (s : List Key) : Int := idx (Key.isB nm) s 0
/-- one change: why not, and the tables behind it -/
def oneK (s : List Key) (c : Ch) : Int × List Key :=
  match findK c.nm s with
  | .negSucc _ => (20, s)
  | .ofNat i => match s[i]? with
    | none => (20, s)
    | some t => if hitK t c.r c.rem = 0 then (0, s.set i (t.1, t.2.1, addS t.2.2 c.r (netOf c.rem))) else (hitK t c.r c.rem, s)
def runK (s : List Key) : Nat → List Ch → Int × Nat × List Key
  | _, [] => (0, 0, s)
  | n, c :: l => if (oneK s c).1 = 0 then runK (oneK s c).2 (n + 1) l else ((oneK s c).1, n, [])
theorem runK_step {l : List Ch} {k : Nat} {c : Ch} (hc : l[k]? = some c) (s : List Key) (n : Nat) : runK s n (l.drop k) = if (oneK s c).1 = 0 then runK (oneK s c).2 (n + 1) (l.drop (k + 1)) else ((oneK s c).1, n, []) := by
  obtain ⟨h1, e1⟩ := List.getElem?_eq_some_iff.1 hc
  rw [List.drop_eq_getElem_cons h1, e1]
  rfl
theorem idx_map {α β : Type} (p : β → Bool) (f : α → β) : ∀ (l : List α) (k : Nat), idx p (l.map f) k = idx (fun x => p (f x)) l k
  | [], k => rfl
  | x :: l, k => by
    show (if p (f x) = true then (k : Int) else idx p (l.map f) (k + 1)) = if p (f x) = true then (k : Int) else idx _ l (k + 1)
    rw [idx_map p f l]
theorem findK_map (nm : ByteArray) (l : List TM) : findK nm (l.map TM.key) = idx (TM.isB nm) l 0 := idx_map _ _ _ _
end Go.Proofs.YtajnnkapgnmoaaaGreat
/-
  Tables that may be, under changes; a change in memory's tables.
-/
namespace Go.Proofs.YtajnnkapgnmoaaaGreat
open Go.RowKit

def Key.dkey (t : Key) : ByteArray × List C := (t.1, t.2.1)
structure KeyOk (b : Int) (t : Key) : Prop where
  set : SetOk t.2.2
  vol : vol t.2.2 ≤ b
  plain : ∀ x ∈ t.2.2, 0 ≤ x.2
  fits : ∀ x ∈ t.2.2, fitsB t.2.1 x.1 = true
structure KeysOk (b : Int) (ks : List Key) : Prop where
  len : ks.length ≤ 6
  defs : defsE (ks.map Key.dkey) = 0
  keys : ∀ t ∈ ks, KeyOk b t
theorem defsR_cols : ∀ (l pre : List (ByteArray × List C)), defsR pre l = 0 → ∀ d ∈ l, colsE d.2 = 0
  | [], pre, _, d, hd => by simp at hd
  | x :: l, pre, h, d, hd => by
    unfold defsR at h
    split at h
    · omega
    · split at h
      · omega
      · split at h
        · rename_i h0
          rcases List.mem_cons.1 hd with rfl | hd
          · exact h0
          · exact defsR_cols l _ h d hd
        · exact absurd h (by assumption)
theorem KeysOk.cols {b : Int} {ks : List Key} (h : KeysOk b ks) {t : Key} (ht : t ∈ ks) : colsE t.2.1 = 0 :=
  defsR_cols _ _ h.defs t.dkey (List.mem_map.2 ⟨t, ht, rfl⟩)
theorem KeysOk.of {b : Int} {s : List TM} (h : KeysOk b (s.map TM.key)) {t : TM} (ht : t ∈ s) : KeyOk b t.key := h.keys t.key (List.mem_map.2 ⟨t, ht, rfl⟩)
theorem KeyOk.rlen {b : Int} {t : TM} (h : KeyOk b t.key) : (t.rows.length : Int) ≤ b := by
  have h1 := len_vol h.set.nets
  have h2 := h.vol
  rw [show t.key.2.2 = its t.rows from rfl] at h1 h2
  rw [its_len] at h1
  omega
theorem KeysOk.tabOk {b : Int} {s : List TM} (h : KeysOk b (s.map TM.key)) (hb : b ≤ 1000000) : TabOk s where
  len := by have := h.len; simpa using this
  cols := fun t ht => h.cols (t := t.key) (List.mem_map.2 ⟨t, ht, rfl⟩)
  set := fun t ht => ⟨(h.of ht).set, by have := (h.of ht).vol; rw [show t.key.2.2 = its t.rows from rfl] at this; omega⟩
  vol := fun t ht => by have := (h.of ht).vol; rw [show t.key.2.2 = its t.rows from rfl] at this; omega
  rlen := fun t ht => by have := (h.of ht).rlen; omega
theorem KeysOk.tabsOk {b : Int} {s : List TM} (h : KeysOk b (s.map TM.key)) (hb : b ≤ 1000000) : TabsOk s where
  len := by have := (h.tabOk hb).len; omega
  defs := by have := h.defs; rw [List.map_map] at this; exact this
  clen := fun t ht => by have := cols_len ((h.tabOk hb).cols t ht); omega
  rlen := (h.tabOk hb).rlen
  set := (h.tabOk hb).set
  plain := fun t ht x hx => (h.of ht).plain x.it (List.mem_map.2 ⟨x, hx, rfl⟩)
  fits := fun t ht x hx => (h.of ht).fits x.it (List.mem_map.2 ⟨x, hx, rfl⟩)

theorem look_pos : ∀ {l : List It}, (∀ x ∈ l, 0 ≤ x.2) → ∀ q, 0 ≤ look l q
  | [], _, q => Int.le_refl _
  | x :: l, h, q => by
    have := look_pos (l := l) (fun y hy => h y (by simp [hy])) q
    have := h x (by simp)
    simp only [look]
    split <;> omega
theorem plain_of {l : List It} (hs : SetOk l) (h : ∀ q, 0 ≤ look l q) : ∀ x ∈ l, 0 ≤ x.2 := fun x hx => by
  have := h x.1
  rwa [hs.toOrd.look_mem hx] at this
theorem KeyOk.put {b : Int} {nm : ByteArray} {cols : List C} {rows : List It} (h : KeyOk b (nm, cols, rows)) (hc : colsE cols = 0) {r : List V} {rem : Bool} (hh : hitK (nm, cols, rows) r rem = 0) : KeyOk (b + 1) (nm, cols, addS rows r (netOf rem)) := by
  unfold hitK at hh
  have hf : fitsB cols r = true := by
    cases hb : fitsB cols r with
    | true => rfl
    | false => dsimp only at hh; rw [hb] at hh; simp at hh
  dsimp only at hh
  rw [hf] at hh
  have hr := rowOk_of hc hf
  have hk : netOf rem ≠ 0 := by unfold netOf; split <;> omega
  have hka : (netOf rem).natAbs = 1 := by unfold netOf; split <;> rfl
  have hset := addS_ok h.set hr hk
  have hv := addS_vol h.set hr hk
  have hv0 := h.vol
  refine ⟨hset, by dsimp only at hv0 hv ⊢; omega, plain_of hset fun q => ?_, fun x hx => ?_⟩
  · dsimp only
    rw [look_addS]
    have h0 := look_pos h.plain q
    dsimp only at h0
    cases rem with
    | false => simp only [netOf]; split <;> simp <;> omega
    | true =>
      simp only [netOf, if_true]
      cases he : eqR r q with
      | false => simpa using h0
      | true =>
        have := (eqR_iff _ _).1 he
        subst this
        have hne : look rows r ≠ 0 := fun e => by rw [e] at hh; simp at hh
        simp only [if_true]
        omega
  · rcases addS_mem rows r _ x hx with e | ⟨z, hz, e⟩
    · dsimp only; rw [e]; exact hf
    · dsimp only; rw [e]; exact h.fits z hz
theorem KeysOk.more {b b' : Int} {ks : List Key} (h : KeysOk b ks) (hb : b ≤ b') : KeysOk b' ks := ⟨h.len, h.defs, fun t ht => ⟨(h.keys t ht).set, Int.le_trans (h.keys t ht).vol hb, (h.keys t ht).plain, (h.keys t ht).fits⟩⟩
theorem KeysOk.one {b : Int} {ks : List Key} (h : KeysOk b ks) (c : Ch) : KeysOk (b + 1) (oneK ks c).2 := by
  have h1 := h.more (b' := b + 1) (by omega)
  unfold oneK
  split
  · exact h1
  · split
    · exact h1
    · rename_i i _ _ t ht
      have hm := List.mem_of_getElem? ht
      split
      · rename_i h0
        refine ⟨by rw [List.length_set]; exact h.len, ?_, fun x hx => ?_⟩
        · have : (ks.set i (t.1, t.2.1, addS t.2.2 c.r (netOf c.rem))).map Key.dkey = ks.map Key.dkey := by
            rw [List.map_set]
            show (ks.map Key.dkey).set i t.dkey = _
            refine List.ext_getElem? fun j => ?_
            rw [List.getElem?_set]
            split
            · rename_i hij
              subst hij
              split
              · rw [List.getElem?_map, ht]; rfl
              · rename_i hl
                rw [List.getElem?_eq_none (by omega)]
            · rfl
          rw [this]; exact h.defs
        · rcases List.mem_or_eq_of_mem_set hx with hx | rfl
          · exact h1.keys x hx
          · exact (h.keys t hm).put (h.cols hm) h0
      · exact h1
theorem runK_ok : ∀ (l : List Ch) (n : Nat) {b : Int} {ks : List Key}, KeysOk b ks → (runK ks n l).1 = 0 → KeysOk (b + l.length) (runK ks n l).2.2
  | [], n, b, ks, h, _ => by simp only [List.length_nil, runK]; exact h.more (by omega)
  | c :: l, n, b, ks, h, h0 => by
    unfold runK at h0 ⊢
    split at h0
    · rename_i h1
      rw [if_pos h1]
      have := runK_ok l (n + 1) (h.one c) h0
      simp only [List.length_cons]
      refine this.more (by omega)
    · rename_i h1
      exact absurd h0 h1

/-- a change of tables of the call's own -/
theorem bone_any (o : Option Nat) (w0 w : World) (g cap : Nat) (s : List TM) (hN : Now o w0 w (.slice (some ⟨g, 0, none⟩) s.length cap) s) (hg : w0.heap.size ≤ g ∧ g < w.heap.size) (hoo : ∀ k, o = some k → k < w.heap.size) (b : Int) (hb : b ≤ 1000000) (hok : KeysOk b (s.map TM.key)) (nm : ByteArray) (r : List V) (B : Option Addr) (d : Nat) (hB : VRow w w.heap.size B r) (hrl : r.length ≤ 1000) (rem : Bool) :
    Calls Tryz.prog 33 #[.slice (some ⟨g, 0, none⟩) s.length cap, .agg #[.string nm, .slice B r.length d, .bool rem]] w fun e w' => e = .returned (.int .i64 (oneK (s.map TM.key) ⟨nm, r, rem⟩).1) ∧ w.grownBy w' (some g) ∧
      ((oneK (s.map TM.key) ⟨nm, r, rem⟩).1 = 0 → ∃ s', s'.length = s.length ∧ Now o w0 w' (.slice (some ⟨g, 0, none⟩) s.length cap) s' ∧ s'.map TM.key = (oneK (s.map TM.key) ⟨nm, r, rem⟩).2) := by
  have hT := hok.tabOk hb
  cases hi : idx (TM.isB nm) s 0 with
  | negSucc n =>
    have e0 : oneK (s.map TM.key) ⟨nm, r, rem⟩ = (20, s.map TM.key) := by
      unfold oneK
      rw [findK_map, hi]
    rw [e0]
    refine (bone_name w (some ⟨g, 0, none⟩) cap s (hN.row hg) (fun k hk => hk) hT.len nm _ B r.length d rfl rem (by rw [hi]; omega)).mono ?_
    rintro e w' ⟨rfl, hb'⟩
    exact ⟨rfl, ⟨hb'.os, hb'.tape, hb'.output, hb'.size, fun k hk _ => hb'.block k hk⟩, fun h => by simp at h⟩
  | ofNat i =>
    have hil : i < s.length := by
      have : ∀ (l : List TM) (k i : Nat), idx (TM.isB nm) l k = (i : Int) → i < k + l.length ∧ k ≤ i := by
        intro l
        induction l with
        | nil => intro k i h; simp only [idx] at h; omega
        | cons x l ih =>
          intro k i h
          simp only [idx] at h
          split at h
          · simp; omega
          · have := ih _ _ h; simp; omega
      have := this s 0 i hi
      omega
    have ht : s[i]? = some s[i] := List.getElem?_eq_getElem hil
    generalize s[i] = t at ht
    have htk : (s.map TM.key)[i]? = some t.key := by rw [List.getElem?_map, ht]; rfl
    have e0 : oneK (s.map TM.key) ⟨nm, r, rem⟩ = if hitE t r rem = 0 then (0, (s.map TM.key).set i (t.nm, t.cols, addS (its t.rows) r (netOf rem))) else (hitE t r rem, s.map TM.key) := by
      unfold oneK
      rw [findK_map, hi]
      dsimp only [Int.ofNat_eq_natCast]
      rw [htk, hitK_key]
      rfl
    rw [e0]
    refine (bone_hit o w0 w g cap s hN hg hoo hT nm r B d hB hrl rem i t hi ht).mono ?_
    rintro e w' ⟨why, rfl, rfl, h1, h2⟩
    by_cases h0 : hitE t r rem = 0
    · rw [if_pos h0, h0]
      obtain ⟨hgr, A', c', rows', hN', hs', hl'⟩ := h2 h0
      refine ⟨rfl, hgr, fun _ => ⟨_, ?_, hN', ?_⟩⟩
      · exact List.length_set ..
      · rw [List.map_set]
        congr 1
        show (t.nm, t.cols, its rows') = _
        have hf : fitsB t.cols r = true := by
          cases hb : fitsB t.cols r with
          | true => rfl
          | false => unfold hitE at h0; rw [hb] at h0; simp at h0
        have hm := List.mem_of_getElem? ht
        rw [addS_eq (k := netOf rem) hs' (hT.set t hm).set (rowOk_of (hT.cols t hm) hf) (by unfold netOf; split <;> omega) hl']
    · rw [if_neg h0]
      have hb' := h1 h0
      exact ⟨rfl, ⟨hb'.os, hb'.tape, hb'.output, hb'.size, fun k hk _ => hb'.block k hk⟩, fun h => absurd h h0⟩
end Go.Proofs.YtajnnkapgnmoaaaGreat
/-
  DERIVED: THE SHELF's CONTRACTS AT THIS DUMP, IN PLAIN WORDS (tools/lay-plain.mjs out of 'TryzShelf.lean', which tools/lay-shelf.mjs wrote): THE SAME DECLARATIONS UNDER THE SAME NAMES: 'import', 'namespace', 'open', 'def', 'theorem' AND NOTHING ELSE: no command of the shelf's: FOR A HAND-IN. Each laying: the table of numbers ('.._ren') and one theorem, a field a fact of the dump's own or the kernel's comparison; each contract: ONE APPLICATION.
-/
namespace Go.Proofs
open Go.Shelf
def Tryz.lays190_ren : Go.Shelf.Ren := ⟨fun | 190 => 34 | 125 => 72 | 258 => 71 | 128 => 112 | 129 => 113 | 302 => 103 | 303 => 104 | 304 => 105 | 305 => 106 | 306 => 107 | 307 => 108 | 308 => 109 | 309 => 110 | 310 => 111 | 333 => 129 | 329 => 130 | 330 => 131 | 334 => 132 | 335 => 133 | 336 => 134 | 344 => 142 | n => n, fun | 31 => 77 | 9 => 9 | 3 => 3 | 46 => 115 | 0 => 0 | 51 => 149 | 53 => 151 | 4 => 4 | 183 => 141 | 182 => 140 | 131 => 146 | 5 => 5 | 218 => 164 | 222 => 168 | 228 => 176 | 229 => 177 | n => n, fun | n => n⟩
theorem Tryz.lays190 : Go.Proofs.Lays.n190 Tryz.prog Tryz.lays190_ren := {
  mixed := by kernel_rfl
  f125 := Tryz.func72.trans (congrArg some (by kernel_rfl))
  f128 := Tryz.func112.trans (congrArg some (by kernel_rfl))
  f129 := Tryz.func113.trans (congrArg some (by kernel_rfl))
  f190 := Tryz.func34.trans (congrArg some (by kernel_rfl))
  f258 := Tryz.func71.trans (congrArg some (by kernel_rfl))
  f302 := Tryz.func103.trans (congrArg some (by kernel_rfl))
  f303 := Tryz.func104.trans (congrArg some (by kernel_rfl))
  f304 := Tryz.func105.trans (congrArg some (by kernel_rfl))
  f305 := Tryz.func106.trans (congrArg some (by kernel_rfl))
  f306 := Tryz.func107.trans (congrArg some (by kernel_rfl))
  f307 := Tryz.func108.trans (congrArg some (by kernel_rfl))
  f308 := Tryz.func109.trans (congrArg some (by kernel_rfl))
  f309 := Tryz.func110.trans (congrArg some (by kernel_rfl))
  f310 := Tryz.func111.trans (congrArg some (by kernel_rfl))
  f329 := Tryz.func130.trans (congrArg some (by kernel_rfl))
  f330 := Tryz.func131.trans (congrArg some (by kernel_rfl))
  f333 := Tryz.func129.trans (congrArg some (by kernel_rfl))
  f334 := Tryz.func132.trans (congrArg some (by kernel_rfl))
  f335 := Tryz.func133.trans (congrArg some (by kernel_rfl))
  f336 := Tryz.func134.trans (congrArg some (by kernel_rfl))
  f344 := Tryz.func142.trans (congrArg some (by kernel_rfl))
  t0 := Tryz.underlying0
  a0 := Tryz.isAgg0
  z0 := Tryz.sizeOf0
  v0 := Tryz.zeroValue0
  t3 := Tryz.underlying3
  a3 := Tryz.isAgg3
  z3 := Tryz.sizeOf3
  v3 := Tryz.zeroValue3
  t4 := Tryz.underlying4
  a4 := Tryz.isAgg4
  z4 := Tryz.sizeOf4
  v4 := Tryz.zeroValue4
  t5 := Tryz.underlying5
  a5 := Tryz.isAgg5
  z5 := Tryz.sizeOf5
  v5 := Tryz.zeroValue5
  t9 := Tryz.underlying9
  a9 := Tryz.isAgg9
  z9 := Tryz.sizeOf9
  v9 := Tryz.zeroValue9
  t31 := Tryz.underlying77
  a31 := Tryz.isAgg77
  z31 := Tryz.sizeOf77
  v31 := Tryz.zeroValue77
  t46 := Tryz.underlying115
  a46 := Tryz.isAgg115
  z46 := Tryz.sizeOf115
  v46 := Tryz.zeroValue115
  t51 := Tryz.underlying149
  a51 := Tryz.isAgg149
  z51 := Tryz.sizeOf149
  v51 := Tryz.zeroValue149
  t53 := Tryz.underlying151
  a53 := Tryz.isAgg151
  z53 := Tryz.sizeOf151
  v53 := Tryz.zeroValue151
  t131 := Tryz.underlying146
  a131 := Tryz.isAgg146
  z131 := Tryz.sizeOf146
  v131 := Tryz.zeroValue146
  t182 := Tryz.underlying140
  a182 := Tryz.isAgg140
  z182 := Tryz.sizeOf140
  v182 := Tryz.zeroValue140
  t183 := Tryz.underlying141
  a183 := Tryz.isAgg141
  z183 := Tryz.sizeOf141
  v183 := Tryz.zeroValue141
  t218 := Tryz.underlying164
  a218 := Tryz.isAgg164
  z218 := Tryz.sizeOf164
  v218 := Tryz.zeroValue164
  t222 := Tryz.underlying168
  a222 := Tryz.isAgg168
  z222 := Tryz.sizeOf168
  v222 := Tryz.zeroValue168
  t228 := Tryz.underlying176
  a228 := Tryz.isAgg176
  z228 := Tryz.sizeOf176
  v228 := Tryz.zeroValue176
  t229 := Tryz.underlying177
  a229 := Tryz.isAgg177
  z229 := Tryz.sizeOf177
  v229 := Tryz.zeroValue177 }
open Go.Sort Go.RowKit in
theorem Tryz.slices_Sort_string (blk off cap : Nat) (ss : List (List UInt8)) (w : World) (hH : Holds encStr w blk off ss.toArray) (hblk : blk < w.heap.size) (hsz : ss.length < 4611686018427387904) :
    Calls Tryz.prog 34 #[.slice (some ⟨blk, off, none⟩) ss.length cap] w fun e w' =>
      e = .returned (.tuple #[]) ∧ ∃ n os, w' = grow (putRow encStr (Sort.ahead w n) blk off (ss.mergeSort fun x y => decide (x ≤ y)).toArray) os := Any.slices_Sort_string Tryz.lays190 blk off cap ss w hH hblk hsz
def Tryz.lays194_ren : Go.Shelf.Ren := ⟨fun | 194 => 35 | n => n, fun | 31 => 77 | 9 => 9 | 3 => 3 | 4 => 4 | 0 => 0 | n => n, fun | n => n⟩
theorem Tryz.lays194 : Go.Proofs.Lays.n194 Tryz.prog Tryz.lays194_ren := {
  mixed := by kernel_rfl
  f194 := Tryz.func35.trans (congrArg some (by kernel_rfl))
  t0 := Tryz.underlying0
  a0 := Tryz.isAgg0
  z0 := Tryz.sizeOf0
  v0 := Tryz.zeroValue0
  t3 := Tryz.underlying3
  a3 := Tryz.isAgg3
  z3 := Tryz.sizeOf3
  v3 := Tryz.zeroValue3
  t4 := Tryz.underlying4
  a4 := Tryz.isAgg4
  z4 := Tryz.sizeOf4
  v4 := Tryz.zeroValue4
  t9 := Tryz.underlying9
  a9 := Tryz.isAgg9
  z9 := Tryz.sizeOf9
  v9 := Tryz.zeroValue9
  t31 := Tryz.underlying77
  a31 := Tryz.isAgg77
  z31 := Tryz.sizeOf77
  v31 := Tryz.zeroValue77 }
open Go.RowKit Go.Lib Go.Sort in
/-- slices.Compact at []string, over an array: the library's two loops are walked. (LAID: no walk: one application.) -/
theorem Tryz.slices_Compact_string_arr (blk off cap : Nat) (d : Array (List UInt8)) (w : World) (hH : Holds encStr w blk off d) (hsz : d.size ≤ 9223372036854775807) (hcap : d.size ≤ cap) :
    Calls Tryz.prog 35 #[.slice (some ⟨blk, off, none⟩) d.size cap] w fun e w' => e = .returned (.slice (some ⟨blk, off, none⟩) (compactUpTo d d.size).length cap) ∧ ∃ q, w' = putRow encStr (Sort.ahead w q) blk off (compactUpTo d d.size ++ List.replicate (d.size - (compactUpTo d d.size).length) []).toArray := Any.slices_Compact_string_arr Tryz.lays194 blk off cap d w hH hsz hcap
open Go.RowKit Go.Lib Go.Sort in
/-- slices.Compact at []string: "Compact replaces consecutive runs of equal elements with a single copy. This is like the uniq command found on Unix. Compact modifies the contents of the slice s and returns the modified slice, which may have a smaller length. Compact zeroes the elements between the new length and the original length. The result preserves the nilness of s.": IT RETURNS THE SLICE CUT TO 'Lib.compact zs'; ITS CELLS HOLD 'Lib.compact zs', THEN ZERO VALUES up to the old length; all else is as it was, but for the count of draws. IN THE WORDS OF slices.Sort's CONTRACT ('Holds', 'putRow'): so the everyday 'slices.Sort(xs); xs = slices.Compact(xs)' goes from the one contract to the other. It asks 'zs.length ≤ cap' (every slice's: the reslicing 's[:k]' looks at it). Length 0, nil: '.._empty'. (LAID: no walk: one application.) -/
theorem Tryz.slices_Compact_string (blk off cap : Nat) (zs : List (List UInt8)) (w : World) (hH : Holds encStr w blk off zs.toArray) (hsz : zs.length ≤ 9223372036854775807) (hcap : zs.length ≤ cap) :
    Calls Tryz.prog 35 #[.slice (some ⟨blk, off, none⟩) zs.length cap] w fun e w' => e = .returned (.slice (some ⟨blk, off, none⟩) (Lib.compact zs).length cap) ∧ ∃ q, w' = putRow encStr (Sort.ahead w q) blk off (Lib.compact zs ++ List.replicate (zs.length - (Lib.compact zs).length) []).toArray := Any.slices_Compact_string Tryz.lays194 blk off cap zs w hH hsz hcap
open Go.RowKit Go.Lib Go.Sort in
/-- The same at a slice of length 0, a nil one too: it comes back as it is. (LAID: no walk: one application.) -/
theorem Tryz.slices_Compact_string_empty (a : Option Addr) (cap : Nat) (w : World) :
    Calls Tryz.prog 35 #[.slice a 0 cap] w fun e w' => e = .returned (.slice a 0 cap) ∧ w' = w := Any.slices_Compact_string_empty Tryz.lays194 a cap w
open Go.RowKit Go.Sort in
/-- .. and plain. (LAID: no walk: one application.) -/
theorem Tryz.slices_Sort_string_none (p : Option Addr) (cap : Nat) (w : World) :
    Calls Tryz.prog 34 #[.slice p 0 cap] w fun e w' => e = .returned (.tuple #[]) ∧ w' = w := Any.slices_Sort_string_none Tryz.lays190 p cap w
end Go.Proofs
/-
  Names of changed tables: sorted, each once; changes, and what they tell, in memory.
-/
namespace Go.Proofs.YtajnnkapgnmoaaaGreat
open Go.RowKit

def strs (l : List ByteArray) : List Value := l.map .string
theorem strs_ones (l : List ByteArray) : ∀ u ∈ strs l, u.oneCell' = true := by
  intro u hu
  obtain ⟨v, _, rfl⟩ := List.mem_map.1 hu
  rfl
theorem string_info : (Tryz.prog.info? 9).map (fun i => (i.zero, i.size, i.bytes)) = some (some (.string ByteArray.empty), 1, 16) := by kernel_rfl
theorem ba_toList (s : ByteArray) : (⟨s.toList.toArray⟩ : ByteArray) = s := by
  rw [ByteArray.toList_eq]
/-- texts in order -/
def sortN (l : List ByteArray) : List (List UInt8) := (l.map ByteArray.toList).mergeSort fun x y => decide (x ≤ y)
/-- .. each once -/
def onceN (l : List ByteArray) : List ByteArray := (Lib.compact (sortN l)).map fun z => ⟨z.toArray⟩
theorem sortN_len (l : List ByteArray) : (sortN l).length = l.length := by unfold sortN; rw [List.length_mergeSort, List.length_map]
theorem compact_len {α : Type} [Inhabited α] [DecidableEq α] (zs : List α) : (Lib.compact zs).length ≤ zs.length := by
  unfold Lib.compact Lib.compactUpTo
  rw [List.length_map]
  exact Nat.le_trans (List.length_filter_le _ _) (by simp)
theorem onceN_len (l : List ByteArray) : (onceN l).length ≤ l.length := by
  unfold onceN
  rw [List.length_map, ← sortN_len l]
  exact compact_len _
theorem own_holds {w : World} {base g cap : Nat} {l : List ByteArray} (h : w.ownsRow base 9 1 (.slice (some ⟨g, 0, none⟩) l.length cap) l.length (strs l)) : Sort.Holds encStr w g 0 (l.map ByteArray.toList).toArray ∧ base ≤ g ∧ g < w.heap.size ∧ l.length ≤ cap := by
  have hlt := h.lt g rfl
  rcases id h.2 with ⟨h', _⟩ | ⟨g', cap', cur, h', hb, hg, hc, _⟩
  · simp at h'
  · simp only [Value.slice.injEq, Option.some.injEq, Addr.mk.injEq, and_true, true_and] at h'
    obtain ⟨rfl, rfl⟩ := h'
    refine ⟨fun j hj => ⟨?_, ?_⟩, hlt.1, hlt.2, hc⟩
    · have hj' : j < l.length := by simpa using hj
      rw [Nat.zero_add, h.cellAt _ (by omega), getElem!_pos _ j hj, List.getElem_toArray, List.getElem_map]
      rw [strs, List.getElem?_map, List.getElem?_eq_getElem hj']
      show some (Value.string l[j]) = some (Value.string ⟨l[j].toList.toArray⟩)
      rw [ba_toList]
    · exact Blk.frozen hg _
theorem grown_putRow {α : Type} [Inhabited α] {enc : α → Value} {blk off n : Nat} {w : World} {d : Array α} : w.grownBy (Sort.putRow enc (Sort.ahead w n) blk off d) (some blk) :=
  ⟨rfl, rfl, rfl, by simp [Sort.ahead], fun k hk hne => by
    show (w.heap.modify blk _)[k]? = _
    rw [Array.getElem?_modify, if_neg (fun e => hne (by rw [e]))]⟩
theorem grown_grow {w w' : World} {row : Option Nat} {os : Array Obj} (h : w.grownBy w' row) : w.grownBy (Sort.grow w' os) row :=
  ⟨h.os, h.tape, h.output, Nat.le_trans h.size (by simp), fun k hk hne => (Sort.heap_grow_old w' os (Nat.lt_of_lt_of_le hk h.size)).trans (h.block k hk hne)⟩
theorem sort_names {w : World} {base g cap : Nat} {l : List ByteArray} (h : w.ownsRow base 9 1 (.slice (some ⟨g, 0, none⟩) l.length cap) l.length (strs l)) (hl : l.length ≤ 1000000) :
    Calls Tryz.prog 34 #[.slice (some ⟨g, 0, none⟩) l.length cap] w fun e w' => e = .returned (.tuple #[]) ∧ w.grownBy w' (some g) ∧ Sort.Holds encStr w' g 0 (sortN l).toArray := by
  obtain ⟨hH, hbg, hlt, hcap⟩ := own_holds h
  have h1 := Tryz.slices_Sort_string g 0 cap (l.map ByteArray.toList) w hH hlt (by rw [List.length_map]; omega)
  rw [List.length_map] at h1
  refine h1.mono ?_
  rintro e w' ⟨rfl, n, os, rfl⟩
  exact ⟨rfl, grown_grow grown_putRow, Sort.holds_grow _ _ _ _ _ _ (by simpa using hlt) (Sort.holds_putRow _ _ _ _ _ _ (Sort.holds_ahead _ _ _ _ _ _ hH) (by simp [List.length_mergeSort]))⟩
theorem once_names {w : World} {g cap : Nat} {l : List ByteArray} (hH : Sort.Holds encStr w g 0 (sortN l).toArray) (hl : l.length ≤ 1000000) (hc : l.length ≤ cap) :
    Calls Tryz.prog 35 #[.slice (some ⟨g, 0, none⟩) l.length cap] w fun e w' => e = .returned (.slice (some ⟨g, 0, none⟩) (onceN l).length cap) ∧ w.grownBy w' (some g) ∧ ∀ (i : Nat) (x : ByteArray), (onceN l)[i]? = some x → w'.cell? ⟨g, i, none⟩ = some (.string x) := by
  have h2 := Tryz.slices_Compact_string g 0 cap (sortN l) w hH (by rw [sortN_len]; omega) (by rw [sortN_len]; omega)
  rw [sortN_len] at h2
  have hol : (onceN l).length = (Lib.compact (sortN l)).length := by unfold onceN; rw [List.length_map]
  rw [hol]
  have hcl := compact_len (sortN l)
  rw [sortN_len] at hcl
  refine h2.mono ?_
  rintro e w' ⟨rfl, q, rfl⟩
  refine ⟨rfl, grown_putRow, fun i x hx => ?_⟩
  unfold onceN at hx
  rw [List.getElem?_map] at hx
  cases hz : (Lib.compact (sortN l))[i]? with
  | none => rw [hz] at hx; cases hx
  | some z =>
    rw [hz] at hx
    obtain rfl : (⟨z.toArray⟩ : ByteArray) = x := by simpa using hx
    have hi : i < (Lib.compact (sortN l)).length := (List.getElem?_eq_some_iff.1 hz).1
    have := Sort.cell?_putRow encStr (Sort.ahead w q) g 0 (sortN l).toArray (Lib.compact (sortN l) ++ List.replicate (l.length - (Lib.compact (sortN l)).length) []).toArray (Sort.holds_ahead _ _ _ _ _ _ hH) (by simp; rw [sortN_len]; omega) i (by simp; omega)
    rw [Nat.zero_add] at this
    rw [this]
    have hx : ((Lib.compact (sortN l) ++ List.replicate (l.length - (Lib.compact (sortN l)).length) []).toArray)[i]! = z := by
      rw [getElem!_pos _ i (by simp; omega), List.getElem_toArray, List.getElem_append_left hi]
      exact (List.getElem?_eq_some_iff.1 hz).2
    rw [hx]

/-- a change in memory -/
structure CM where
  nm : ByteArray
  A : Option Addr
  c : Nat
  r : List V
  rem : Bool
def CM.ch (x : CM) : Ch := ⟨x.nm, x.r, x.rem⟩
def ChAt (w : World) (b off : Nat) (l : List CM) : Prop := ∀ i x, l[i]? = some x → w.cell? ⟨b, off + i * 3, none⟩ = some (.string x.nm) ∧ w.cell? ⟨b, off + i * 3 + 1, none⟩ = some (.slice x.A x.r.length x.c) ∧ w.cell? ⟨b, off + i * 3 + 2, none⟩ = some (.bool x.rem)
structure ChRow (w : World) (S : Nat → Prop) (A : Option Addr) (l : List CM) : Prop where
  at_ : l = [] ∨ ∃ b off, A = some ⟨b, off, none⟩ ∧ S b ∧ ChAt w b off l
  rows : ∀ x ∈ l, VRowS w S x.A x.r
section
variable {w w' : World} {S S' : Nat → Prop} {B b off : Nat} {A : Option Addr} {l : List CM}
theorem ChAt.kept (h : ChAt w b off l) (hk : w'.heap[b]? = w.heap[b]?) : ChAt w' b off l := fun i t ht => by
  obtain ⟨h1, h2, h3⟩ := h i t ht
  have hc : ∀ o, w'.cell? ⟨b, o, none⟩ = w.cell? ⟨b, o, none⟩ := fun o => World.cell?_of_block hk
  exact ⟨(hc _).trans h1, (hc _).trans h2, (hc _).trans h3⟩
theorem ChRow.kept (h : ChRow w S A l) (hk : ∀ k, S k → w'.heap[k]? = w.heap[k]?) : ChRow w' S A l :=
  ⟨by
    rcases h.at_ with h | ⟨b, o, hA, hS, h⟩
    · exact .inl h
    · exact .inr ⟨b, o, hA, hS, h.kept (hk b hS)⟩, fun t ht => (h.rows t ht).kept hk⟩
theorem ChRow.mono (h : ChRow w S A l) (hS : ∀ k, S k → S' k) : ChRow w S' A l :=
  ⟨by
    rcases h.at_ with h | ⟨b, o, hA, hb, h⟩
    · exact .inl h
    · exact .inr ⟨b, o, hA, hS b hb, h⟩, fun t ht => (h.rows t ht).mono hS⟩
theorem ChRow.below (h : ChRow w S A l) (hb : Below B w w') (hS : ∀ k, S k → k < B) : ChRow w' S A l := h.kept fun k hk => hb.block k (hS k hk)
theorem ChRow.get {i : Nat} {t : CM} (h : ChRow w S A l) (ht : l[i]? = some t) : ∃ b off, A = some ⟨b, off, none⟩ ∧ S b ∧ w.cell? ⟨b, off + i * 3, none⟩ = some (.string t.nm) ∧ w.cell? ⟨b, off + i * 3 + 1, none⟩ = some (.slice t.A t.r.length t.c) ∧ w.cell? ⟨b, off + i * 3 + 2, none⟩ = some (.bool t.rem) := by
  rcases h.at_ with rfl | ⟨b, off, hA, hS, h⟩
  · simp at ht
  · exact ⟨b, off, hA, hS, h i t ht⟩
end

/-- what a change tells, in memory -/
structure XM where
  nm : ByteArray
  A : Option Addr
  c : Nat
  rows : List IM
def XM.cs (x : XM) : List Value := [.string x.nm, .slice x.A x.rows.length x.c]
def XM.key (x : XM) : ByteArray × List It := (x.nm, its x.rows)
def flatX (l : List XM) : List Value := l.flatMap XM.cs
theorem flatX_len (l : List XM) : (flatX l).length = l.length * 2 := by
  induction l with
  | nil => rfl
  | cons v l ih => show ((XM.cs v) ++ flatX l).length = _; simp [ih, XM.cs]; omega
theorem flatX_get (l : List XM) : ∀ (i : Nat) (v : XM), l[i]? = some v → (flatX l)[i * 2]? = some (.string v.nm) ∧ (flatX l)[i * 2 + 1]? = some (.slice v.A v.rows.length v.c) := by
  induction l with
  | nil => intro i v h; simp at h
  | cons x l ih =>
    intro i v h
    have e : flatX (x :: l) = XM.cs x ++ flatX l := rfl
    rw [e]
    cases i with
    | zero =>
      obtain rfl : x = v := by simpa using h
      exact ⟨rfl, rfl⟩
    | succ i =>
      have := ih i v (by simpa using h)
      have hl : (XM.cs x).length = 2 := rfl
      rw [List.getElem?_append_right (by omega), List.getElem?_append_right (by omega), hl]
      rw [show (i + 1) * 2 - 2 = i * 2 from by omega, show (i + 1) * 2 + 1 - 2 = i * 2 + 1 from by omega]
      exact this
theorem flatX_one (t : XM) : flatX [t] = XM.cs t := by simp [flatX]
theorem flatX_append (a b : List XM) : flatX (a ++ b) = flatX a ++ flatX b := by simp [flatX]
def XAt (w : World) (b off : Nat) (l : List XM) : Prop := ∀ i x, l[i]? = some x → w.cell? ⟨b, off + i * 2, none⟩ = some (.string x.nm) ∧ w.cell? ⟨b, off + i * 2 + 1, none⟩ = some (.slice x.A x.rows.length x.c)
structure XRow (w : World) (S : Nat → Prop) (A : Option Addr) (l : List XM) : Prop where
  at_ : l = [] ∨ ∃ b off, A = some ⟨b, off, none⟩ ∧ S b ∧ XAt w b off l
  rows : ∀ x ∈ l, SRow w S x.A x.rows
section
variable {w w' : World} {S S' : Nat → Prop} {B b off : Nat} {A : Option Addr} {l : List XM}
theorem XAt.kept (h : XAt w b off l) (hk : w'.heap[b]? = w.heap[b]?) : XAt w' b off l := fun i t ht => by
  obtain ⟨h1, h2⟩ := h i t ht
  have hc : ∀ o, w'.cell? ⟨b, o, none⟩ = w.cell? ⟨b, o, none⟩ := fun o => World.cell?_of_block hk
  exact ⟨(hc _).trans h1, (hc _).trans h2⟩
theorem XRow.kept (h : XRow w S A l) (hk : ∀ k, S k → w'.heap[k]? = w.heap[k]?) : XRow w' S A l :=
  ⟨by
    rcases h.at_ with h | ⟨b, o, hA, hS, h⟩
    · exact .inl h
    · exact .inr ⟨b, o, hA, hS, h.kept (hk b hS)⟩, fun t ht => (h.rows t ht).kept hk⟩
theorem XRow.mono (h : XRow w S A l) (hS : ∀ k, S k → S' k) : XRow w S' A l :=
  ⟨by
    rcases h.at_ with h | ⟨b, o, hA, hb, h⟩
    · exact .inl h
    · exact .inr ⟨b, o, hA, hS b hb, h⟩, fun t ht => (h.rows t ht).mono hS⟩
theorem XRow.below (h : XRow w S A l) (hb : Below B w w') (hS : ∀ k, S k → k < B) : XRow w' S A l := h.kept fun k hk => hb.block k (hS k hk)
theorem XRow.get {i : Nat} {t : XM} (h : XRow w S A l) (ht : l[i]? = some t) : ∃ b off, A = some ⟨b, off, none⟩ ∧ S b ∧ w.cell? ⟨b, off + i * 2, none⟩ = some (.string t.nm) ∧ w.cell? ⟨b, off + i * 2 + 1, none⟩ = some (.slice t.A t.rows.length t.c) := by
  rcases h.at_ with rfl | ⟨b, off, hA, hS, h⟩
  · simp at ht
  · exact ⟨b, off, hA, hS, h i t ht⟩
end
theorem own_deltas {w : World} {S : Nat → Prop} {base : Nat} {e : TypeId} {v : Value} {l : List XM} (h : w.ownsRow base e 2 v l.length (flatX l)) (hS : ∀ g, base ≤ g → g < w.heap.size → (∀ o, w.frozen? ⟨g, o, none⟩ = false) → S g) (hr : ∀ t ∈ l, SRow w S t.A t.rows) :
    ∃ A c, v = .slice A l.length c ∧ l.length ≤ c ∧ XRow w S A l := by
  obtain ⟨_, hcase⟩ := id h
  rcases hcase with ⟨rfl, h0⟩ | ⟨g, cap, cur, rfl, hg, hh, hn, hcap, hsz, htake⟩
  · exact ⟨none, 0, by rw [h0], by omega, .inl (List.eq_nil_of_length_eq_zero h0), hr⟩
  · have hlt : g < w.heap.size := (Array.getElem?_eq_some_iff.1 hh).1
    refine ⟨some ⟨g, 0, none⟩, cap, rfl, hn, .inr ⟨g, 0, rfl, hS g hg hlt (fun o => h.frozenAt o), ?_⟩, hr⟩
    intro i x hx
    obtain ⟨f1, f2⟩ := flatX_get l i x hx
    have hi : i < l.length := (List.getElem?_eq_some_iff.1 hx).1
    rw [Nat.zero_add, h.cellAt _ (by omega), h.cellAt _ (by omega)]
    exact ⟨f1, f2⟩
theorem delta_info : (Tryz.prog.info? 52).map (fun i => (i.zero, i.size, i.bytes)) = some (some (.agg #[.string ByteArray.empty, .slice none 0 0]), 2, 40) := by kernel_rfl
/-- what is told of a table -/
def deltaK (now old : List Key) (nm : ByteArray) : ByteArray × List It :=
  match findK nm now with
  | .negSucc _ => (nm, [])
  | .ofNat i => match now[i]?, old[i]? with
    | some a, some b => (nm, sumS a.2.2 (flipS b.2.2))
    | _, _ => (nm, [])
/-- changes of tables: why not, at which, the tables behind, what is told -/
def applyK (ks : List Key) (l : List Ch) : Int × Nat × List Key × List (ByteArray × List It) :=
  if 8 < l.length then (4, 0, [], []) else if l.length = 0 then (1, 0, [], []) else
    if (runK ks 0 l).1 = 0 then (0, 0, (runK ks 0 l).2.2, (onceN (l.map Ch.nm)).map (deltaK (runK ks 0 l).2.2 ks)) else ((runK ks 0 l).1, (runK ks 0 l).2.1, [], [])
end Go.Proofs.YtajnnkapgnmoaaaGreat
/-
  confluenceref8.Put: a text put among texts, each once.
-/
set_option linter.unusedVariables false
set_option linter.unusedSimpArgs false
namespace Go.Proofs.YtajnnkapgnmoaaaGreat
open Go.RowKit

def geB (x s : ByteArray) : Bool := !Op.bytesLess x.toList s.toList
def putR (s : ByteArray) : List ByteArray → Bool → List ByteArray
  | [], d => bif d then [] else [s]
  | x :: l, d => (bif !d && geB x s then [s] else []) ++ (bif x.toList == s.toList then [] else [x]) ++ putR s l (d || geB x s)
def putL (l : List ByteArray) (s : ByteArray) : List ByteArray := putR s l false
theorem putR_step {l : List ByteArray} {k : Nat} {x : ByteArray} (hx : l[k]? = some x) (s : ByteArray) (d : Bool) : putR s (l.drop k) d = (bif !d && geB x s then [s] else []) ++ (bif x.toList == s.toList then [] else [x]) ++ putR s (l.drop (k + 1)) (d || geB x s) := by
  obtain ⟨h1, e1⟩ := List.getElem?_eq_some_iff.1 hx
  rw [List.drop_eq_getElem_cons h1, e1]
  rfl
/-- a slice at an address holds the texts l -/
def SAt (w : World) (S : Nat → Prop) (A : Option Addr) (l : List ByteArray) : Prop := l = [] ∨ ∃ b off, A = some ⟨b, off, none⟩ ∧ S b ∧ ∀ (i : Nat) x, l[i]? = some x → w.cell? ⟨b, off + i, none⟩ = some (.string x)
theorem SAt.kept {w w' : World} {S : Nat → Prop} {A : Option Addr} {l : List ByteArray} (h : SAt w S A l) (hk : ∀ k, S k → w'.heap[k]? = w.heap[k]?) : SAt w' S A l := by
  rcases h with h | ⟨b, off, e, hS, h⟩
  · exact .inl h
  · exact .inr ⟨b, off, e, hS, fun i x hx => (World.cell?_of_block (hk b hS)).trans (h i x hx)⟩
theorem SAt.mono {w : World} {S S' : Nat → Prop} {A : Option Addr} {l : List ByteArray} (h : SAt w S A l) (hk : ∀ k, S k → S' k) : SAt w S' A l := by
  rcases h with h | ⟨b, off, e, hS, h⟩
  · exact .inl h
  · exact .inr ⟨b, off, e, hk b hS, h⟩
theorem SAt.get {w : World} {S : Nat → Prop} {A : Option Addr} {l : List ByteArray} (h : SAt w S A l) {i : Nat} {x : ByteArray} (hx : l[i]? = some x) : ∃ b off, A = some ⟨b, off, none⟩ ∧ S b ∧ w.cell? ⟨b, off + i, none⟩ = some (.string x) := by
  rcases h with rfl | ⟨b, off, e, hS, h⟩
  · simp at hx
  · exact ⟨b, off, e, hS, h i x hx⟩
theorem own_texts {w : World} {base c : Nat} {A : Option Addr} {l : List ByteArray} (h : w.ownsRow base 9 1 (.slice A l.length c) l.length (strs l)) : SAt w (fun k => (Value.slice A l.length c).ownBlock = some k ∧ base ≤ k ∧ k < w.heap.size) A l := by
  rcases Nat.eq_zero_or_pos l.length with h0 | h0
  · exact .inl (List.eq_nil_of_length_eq_zero h0)
  · obtain ⟨g, cap, hv, hb, hlt⟩ := h.form h0
    simp only [Value.slice.injEq, true_and] at hv
    obtain ⟨rfl, rfl⟩ := hv
    refine .inr ⟨g, 0, rfl, ⟨rfl, hb, hlt⟩, fun i x hx => ?_⟩
    have hi : i < l.length := (List.getElem?_eq_some_iff.1 hx).1
    rw [Nat.zero_add, h.cellAt _ (by omega), strs, List.getElem?_map, hx]
    rfl
theorem strs_append (a b : List ByteArray) : strs (a ++ b) = strs a ++ strs b := by simp [strs]

set_option maxHeartbeats 2000000 in
set_option maxRecDepth 100000 in
theorem rput_any (A : Option Addr) (c : Nat) (l : List ByteArray) (s : ByteArray) (w : World) {S : Nat → Prop} (hA : SAt w S A l) (hS : ∀ k, S k → k < w.heap.size) (hl : l.length ≤ 1000000) :
    Calls Tryz.prog 54 #[.slice A l.length c, .string s] w fun e w' => (∃ v, e = .returned v ∧ w'.ownsRow w.heap.size 9 1 v (putL l s).length (strs (putL l s))) ∧ Below w.heap.size w w' := by
  obtain ⟨i0, hi, hz0, hz1, hz2⟩ := info_parts string_info
  obtain ⟨n, hn⟩ : ∃ n, l.length = n := ⟨_, rfl⟩
  have HN := Lib.hid hn
  have HA := Lib.hid hA
  have HS := Lib.hid hS
  rw [hn] at hl ⊢
  clear hA hS hn
  go_enter Tryz.func54, Tryz.ntmps54
  go_wp2_with fail
  go_loopw [5, 6, 7] (fun v d i wr => ∃ (k : Nat) (ol : List ByteArray) (done : Bool), k ≤ n ∧ i = .int .i64 k ∧ d = .bool done ∧ wr.ownsRow w.heap.size 9 1 v ol.length (strs ol) ∧ Below w.heap.size w wr ∧ Hid (putL l s = ol ++ putR s (l.drop k) done) ∧ ol.length ≤ 2 * k) (fun _ _ i _ => n - (intOf i).toNat)
  case atStart => exact ⟨0, [], false, Nat.zero_le _, rfl, rfl, World.ownsRow_nil _ _ _ _, Below.refl _ _, Lib.hid rfl, by simp⟩
  case round =>
    rename World => wo
    obtain ⟨k, ol, done, hk, rfl, rfl, hown, hb, HP, hol⟩ := hrel
    have HO := Lib.hid hown
    have HB := Lib.hid hb
    have hs := hb.size
    clear hown hb
    by_cases hlt : k < n
    · obtain ⟨x, hx⟩ : ∃ x, l[k]? = some x := ⟨_, List.getElem?_eq_getElem (by rw [HN.out]; exact hlt)⟩
      obtain ⟨b, off, rfl, hSb, hc1⟩ := (HA.out.kept fun k hk => HB.out.block k (HS.out k hk)).get hx
      have HP2 := Lib.hid (HP.out.trans (congrArg (ol ++ ·) (putR_step hx s done)))
      have hbw : b < w.heap.size := HS.out b hSb
      clear hx hSb HP
      have hge : geB x s = !Op.bytesLess x.toList s.toList := rfl
      obtain ⟨lt, hlt2⟩ : ∃ lt, Op.bytesLess x.toList s.toList = lt := ⟨_, rfl⟩
      obtain ⟨eq, heq⟩ : ∃ eq, (x.toList == s.toList) = eq := ⟨_, rfl⟩
      rw [hlt2] at hge
      rw [hge, heq] at HP2
      clear hge
      cases done
      · cases lt
        · cases eq
          · go_wp2_with (at_builtin; refine wpList_append_any _ rfl _ _ 77 rfl w.heap.size 9 i0 _ 1 16 Tryz.underlying77 hi hz0 hz1 hz2 rfl (by decide) _ _ _ rfl (HO.out.alloc _) (wo.heap.size + 1) _ _ _ [.string s] rfl ⟨rfl, fun _ => ⟨_, rfl, Nat.lt_succ_self _, World.news_of_block (heap_alloc_new wo _)⟩⟩ ?c1w3 ?c2w3 ?c3w3 ?c4w3 ?_)
            case c1w3 => intro u hu; rw [List.mem_singleton.1 hu]; rfl
            case c2w3 => unfold maxLen; (try simp only [List.length_append, List.length_singleton]); omega
            case c3w3 => (try simp only [List.length_append, List.length_singleton]); omega
            case c4w3 => simp; omega
            intro v3 w3 hown hgrow hat
            have HBw3 : Hid (Below w.heap.size w w3) := Lib.hid ((HB.out.alloc hs _).grown hgrow (by simp; omega) (fun g hg => (HO.out.lt g hg).1))
            have hsw3 := HBw3.out.size
            have HOw3 : Hid (w3.ownsRow w.heap.size 9 1 v3 (ol ++ [s]).length (strs (ol ++ [s]))) := Lib.hid (by rw [strs_append]; first | exact hown | (simp only [List.length_append, List.length_singleton] at hown ⊢; exact hown))
            have hc1 := ((HBw3.out.cell (p := ⟨b, off + k, none⟩) hbw).trans ((HB.out.cell (p := ⟨b, off + k, none⟩) hbw).symm.trans hc1))
            clear hown hgrow hat
            go_wp2_with (at_builtin; refine wpList_append_any _ rfl _ _ 77 rfl w.heap.size 9 i0 _ 1 16 Tryz.underlying77 hi hz0 hz1 hz2 rfl (by decide) _ _ _ rfl (HOw3.out.alloc _) (w3.heap.size + 1) _ _ _ [.string x] rfl ⟨rfl, fun _ => ⟨_, rfl, Nat.lt_succ_self _, World.news_of_block (heap_alloc_new w3 _)⟩⟩ ?c1w4 ?c2w4 ?c3w4 ?c4w4 ?_)
            case c1w4 => intro u hu; rw [List.mem_singleton.1 hu]; rfl
            case c2w4 => unfold maxLen; (try simp only [List.length_append, List.length_singleton]); omega
            case c3w4 => (try simp only [List.length_append, List.length_singleton]); omega
            case c4w4 => simp; omega
            intro v4 w4 hown hgrow hat
            have HBw3w4 : Hid (Below w.heap.size w w4) := Lib.hid ((HBw3.out.alloc hsw3 _).grown hgrow (by simp; omega) (fun g hg => (HOw3.out.lt g hg).1))
            have hsw3w4 := HBw3w4.out.size
            have HOw3w4 : Hid (w4.ownsRow w.heap.size 9 1 v4 ((ol ++ [s]) ++ [x]).length (strs ((ol ++ [s]) ++ [x]))) := Lib.hid (by rw [strs_append]; first | exact hown | (simp only [List.length_append, List.length_singleton] at hown ⊢; exact hown))
            have hc1 := ((HBw3w4.out.cell (p := ⟨b, off + k, none⟩) hbw).trans ((HBw3.out.cell (p := ⟨b, off + k, none⟩) hbw).symm.trans hc1))
            clear hown hgrow hat
            have HP3 : Hid (putL l s = ((ol ++ [s]) ++ [x]) ++ putR s (l.drop (k + 1)) true) := Lib.hid (HP2.out.trans (by first | rfl | simp))
            clear HP2
            go_wp2_with fail
            go_roundw
            case rel => exact ⟨k + 1, ((ol ++ [s]) ++ [x]), true, by omega, by go_num, rfl, HOw3w4.out, HBw3w4.out, HP3, by (try simp only [List.length_append, List.length_singleton]); omega⟩
            case measure => simp [intOf]; omega
          · go_wp2_with (at_builtin; refine wpList_append_any _ rfl _ _ 77 rfl w.heap.size 9 i0 _ 1 16 Tryz.underlying77 hi hz0 hz1 hz2 rfl (by decide) _ _ _ rfl (HO.out.alloc _) (wo.heap.size + 1) _ _ _ [.string s] rfl ⟨rfl, fun _ => ⟨_, rfl, Nat.lt_succ_self _, World.news_of_block (heap_alloc_new wo _)⟩⟩ ?c1w3 ?c2w3 ?c3w3 ?c4w3 ?_)
            case c1w3 => intro u hu; rw [List.mem_singleton.1 hu]; rfl
            case c2w3 => unfold maxLen; (try simp only [List.length_append, List.length_singleton]); omega
            case c3w3 => (try simp only [List.length_append, List.length_singleton]); omega
            case c4w3 => simp; omega
            intro v3 w3 hown hgrow hat
            have HBw3 : Hid (Below w.heap.size w w3) := Lib.hid ((HB.out.alloc hs _).grown hgrow (by simp; omega) (fun g hg => (HO.out.lt g hg).1))
            have hsw3 := HBw3.out.size
            have HOw3 : Hid (w3.ownsRow w.heap.size 9 1 v3 (ol ++ [s]).length (strs (ol ++ [s]))) := Lib.hid (by rw [strs_append]; first | exact hown | (simp only [List.length_append, List.length_singleton] at hown ⊢; exact hown))
            have hc1 := ((HBw3.out.cell (p := ⟨b, off + k, none⟩) hbw).trans ((HB.out.cell (p := ⟨b, off + k, none⟩) hbw).symm.trans hc1))
            clear hown hgrow hat
            have HP3 : Hid (putL l s = (ol ++ [s]) ++ putR s (l.drop (k + 1)) true) := Lib.hid (HP2.out.trans (by first | rfl | simp))
            clear HP2
            go_wp2_with fail
            go_roundw
            case rel => exact ⟨k + 1, (ol ++ [s]), true, by omega, by go_num, rfl, HOw3.out, HBw3.out, HP3, by (try simp only [List.length_append, List.length_singleton]); omega⟩
            case measure => simp [intOf]; omega
        · cases eq
          · go_wp2_with (at_builtin; refine wpList_append_any _ rfl _ _ 77 rfl w.heap.size 9 i0 _ 1 16 Tryz.underlying77 hi hz0 hz1 hz2 rfl (by decide) _ _ _ rfl (HO.out.alloc _) (wo.heap.size + 1) _ _ _ [.string x] rfl ⟨rfl, fun _ => ⟨_, rfl, Nat.lt_succ_self _, World.news_of_block (heap_alloc_new wo _)⟩⟩ ?c1w4 ?c2w4 ?c3w4 ?c4w4 ?_)
            case c1w4 => intro u hu; rw [List.mem_singleton.1 hu]; rfl
            case c2w4 => unfold maxLen; (try simp only [List.length_append, List.length_singleton]); omega
            case c3w4 => (try simp only [List.length_append, List.length_singleton]); omega
            case c4w4 => simp; omega
            intro v4 w4 hown hgrow hat
            have HBw4 : Hid (Below w.heap.size w w4) := Lib.hid ((HB.out.alloc hs _).grown hgrow (by simp; omega) (fun g hg => (HO.out.lt g hg).1))
            have hsw4 := HBw4.out.size
            have HOw4 : Hid (w4.ownsRow w.heap.size 9 1 v4 (ol ++ [x]).length (strs (ol ++ [x]))) := Lib.hid (by rw [strs_append]; first | exact hown | (simp only [List.length_append, List.length_singleton] at hown ⊢; exact hown))
            have hc1 := ((HBw4.out.cell (p := ⟨b, off + k, none⟩) hbw).trans ((HB.out.cell (p := ⟨b, off + k, none⟩) hbw).symm.trans hc1))
            clear hown hgrow hat
            have HP3 : Hid (putL l s = (ol ++ [x]) ++ putR s (l.drop (k + 1)) false) := Lib.hid (HP2.out.trans (by first | rfl | simp))
            clear HP2
            go_wp2_with fail
            go_roundw
            case rel => exact ⟨k + 1, (ol ++ [x]), false, by omega, by go_num, rfl, HOw4.out, HBw4.out, HP3, by (try simp only [List.length_append, List.length_singleton]); omega⟩
            case measure => simp [intOf]; omega
          · have HP3 : Hid (putL l s = ol ++ putR s (l.drop (k + 1)) false) := Lib.hid (HP2.out.trans (by first | rfl | simp))
            clear HP2
            go_wp2_with fail
            go_roundw
            case rel => exact ⟨k + 1, ol, false, by omega, by go_num, rfl, HO.out, HB.out, HP3, by (try simp only [List.length_append, List.length_singleton]); omega⟩
            case measure => simp [intOf]; omega
      · cases lt
        · cases eq
          · go_wp2_with (at_builtin; refine wpList_append_any _ rfl _ _ 77 rfl w.heap.size 9 i0 _ 1 16 Tryz.underlying77 hi hz0 hz1 hz2 rfl (by decide) _ _ _ rfl (HO.out.alloc _) (wo.heap.size + 1) _ _ _ [.string x] rfl ⟨rfl, fun _ => ⟨_, rfl, Nat.lt_succ_self _, World.news_of_block (heap_alloc_new wo _)⟩⟩ ?c1w4 ?c2w4 ?c3w4 ?c4w4 ?_)
            case c1w4 => intro u hu; rw [List.mem_singleton.1 hu]; rfl
            case c2w4 => unfold maxLen; (try simp only [List.length_append, List.length_singleton]); omega
            case c3w4 => (try simp only [List.length_append, List.length_singleton]); omega
            case c4w4 => simp; omega
            intro v4 w4 hown hgrow hat
            have HBw4 : Hid (Below w.heap.size w w4) := Lib.hid ((HB.out.alloc hs _).grown hgrow (by simp; omega) (fun g hg => (HO.out.lt g hg).1))
            have hsw4 := HBw4.out.size
            have HOw4 : Hid (w4.ownsRow w.heap.size 9 1 v4 (ol ++ [x]).length (strs (ol ++ [x]))) := Lib.hid (by rw [strs_append]; first | exact hown | (simp only [List.length_append, List.length_singleton] at hown ⊢; exact hown))
            have hc1 := ((HBw4.out.cell (p := ⟨b, off + k, none⟩) hbw).trans ((HB.out.cell (p := ⟨b, off + k, none⟩) hbw).symm.trans hc1))
            clear hown hgrow hat
            have HP3 : Hid (putL l s = (ol ++ [x]) ++ putR s (l.drop (k + 1)) true) := Lib.hid (HP2.out.trans (by first | rfl | simp))
            clear HP2
            go_wp2_with fail
            go_roundw
            case rel => exact ⟨k + 1, (ol ++ [x]), true, by omega, by go_num, rfl, HOw4.out, HBw4.out, HP3, by (try simp only [List.length_append, List.length_singleton]); omega⟩
            case measure => simp [intOf]; omega
          · have HP3 : Hid (putL l s = ol ++ putR s (l.drop (k + 1)) true) := Lib.hid (HP2.out.trans (by first | rfl | simp))
            clear HP2
            go_wp2_with fail
            go_roundw
            case rel => exact ⟨k + 1, ol, true, by omega, by go_num, rfl, HO.out, HB.out, HP3, by (try simp only [List.length_append, List.length_singleton]); omega⟩
            case measure => simp [intOf]; omega
        · cases eq
          · go_wp2_with (at_builtin; refine wpList_append_any _ rfl _ _ 77 rfl w.heap.size 9 i0 _ 1 16 Tryz.underlying77 hi hz0 hz1 hz2 rfl (by decide) _ _ _ rfl (HO.out.alloc _) (wo.heap.size + 1) _ _ _ [.string x] rfl ⟨rfl, fun _ => ⟨_, rfl, Nat.lt_succ_self _, World.news_of_block (heap_alloc_new wo _)⟩⟩ ?c1w4 ?c2w4 ?c3w4 ?c4w4 ?_)
            case c1w4 => intro u hu; rw [List.mem_singleton.1 hu]; rfl
            case c2w4 => unfold maxLen; (try simp only [List.length_append, List.length_singleton]); omega
            case c3w4 => (try simp only [List.length_append, List.length_singleton]); omega
            case c4w4 => simp; omega
            intro v4 w4 hown hgrow hat
            have HBw4 : Hid (Below w.heap.size w w4) := Lib.hid ((HB.out.alloc hs _).grown hgrow (by simp; omega) (fun g hg => (HO.out.lt g hg).1))
            have hsw4 := HBw4.out.size
            have HOw4 : Hid (w4.ownsRow w.heap.size 9 1 v4 (ol ++ [x]).length (strs (ol ++ [x]))) := Lib.hid (by rw [strs_append]; first | exact hown | (simp only [List.length_append, List.length_singleton] at hown ⊢; exact hown))
            have hc1 := ((HBw4.out.cell (p := ⟨b, off + k, none⟩) hbw).trans ((HB.out.cell (p := ⟨b, off + k, none⟩) hbw).symm.trans hc1))
            clear hown hgrow hat
            have HP3 : Hid (putL l s = (ol ++ [x]) ++ putR s (l.drop (k + 1)) true) := Lib.hid (HP2.out.trans (by first | rfl | simp))
            clear HP2
            go_wp2_with fail
            go_roundw
            case rel => exact ⟨k + 1, (ol ++ [x]), true, by omega, by go_num, rfl, HOw4.out, HBw4.out, HP3, by (try simp only [List.length_append, List.length_singleton]); omega⟩
            case measure => simp [intOf]; omega
          · have HP3 : Hid (putL l s = ol ++ putR s (l.drop (k + 1)) true) := Lib.hid (HP2.out.trans (by first | rfl | simp))
            clear HP2
            go_wp2_with fail
            go_roundw
            case rel => exact ⟨k + 1, ol, true, by omega, by go_num, rfl, HO.out, HB.out, HP3, by (try simp only [List.length_append, List.length_singleton]); omega⟩
            case measure => simp [intOf]; omega
    · obtain rfl : k = n := by omega
      have HD : Hid (l.drop k = []) := Lib.hid (List.drop_of_length_le (by rw [HN.out]; exact Nat.le_refl _))
      rw [HD.out] at HP
      cases done
      · go_wp2_with (at_builtin; refine wpList_append_any _ rfl _ _ 77 rfl w.heap.size 9 i0 _ 1 16 Tryz.underlying77 hi hz0 hz1 hz2 rfl (by decide) _ _ _ rfl (HO.out.alloc _) (wo.heap.size + 1) _ _ _ [.string s] rfl ⟨rfl, fun _ => ⟨_, rfl, Nat.lt_succ_self _, World.news_of_block (heap_alloc_new wo _)⟩⟩ ?c1 ?c2 ?c3 ?c4 ?_)
        case c1 => intro u hu; rw [List.mem_singleton.1 hu]; rfl
        case c2 => unfold maxLen; omega
        case c3 => omega
        case c4 => simp; omega
        intro v3 w3 hown hgrow hat
        have HB3 : Hid (Below w.heap.size w w3) := Lib.hid ((HB.out.alloc hs _).grown hgrow (by simp; omega) (fun g hg => (HO.out.lt g hg).1))
        have HO3 : Hid (w3.ownsRow w.heap.size 9 1 v3 (ol ++ [s]).length (strs (ol ++ [s]))) := Lib.hid (by rw [strs_append, List.length_append]; exact hown)
        clear hown hgrow hat
        go_wp2_with fail
        go_ret
        refine ⟨⟨_, rfl, ?_⟩, HB3.out⟩
        rw [HP.out]
        exact HO3.out
      · go_wp2_with fail
        go_ret
        refine ⟨⟨_, rfl, ?_⟩, HB.out⟩
        rw [HP.out]
        simp only [putR, cond_true, List.append_nil]
        exact HO.out
end Go.Proofs.YtajnnkapgnmoaaaGreat
/-
  Package confluencekeep's contracts: Num, Nums.
-/
namespace Go.Proofs.YtajnnkapgnmoaaaGreat
open Go.RowKit


theorem keep_num (n : Int) (w : World) :
    Calls Tryz.prog 14 #[.int .i64 n] w fun e w' => e = .returned (.agg #[.int .i64 1, .int .i64 n, .string ⟨#[]⟩]) ∧ w.alloc (.cells #[.int .i64 1, .int .i64 n, .string ⟨#[]⟩] 49) = w' := by
  go_enter Tryz.func14, Tryz.ntmps14
  go_wp2
  exact bodyPost_ret (v := .agg #[.int .i64 1, .int .i64 n, .string ⟨#[]⟩]) (by simp [results, Tryz.results14, go_sem]) rfl ⟨rfl, rfl⟩

def numV (n : Int) : V := ⟨1, n, ⟨#[]⟩⟩
/-- a new row -/
def NewRow (w : World) (l : List V) (e : Ending) (w' : World) : Prop := ∃ v, e = .returned v ∧ w'.ownsRow w.heap.size 49 3 v l.length (flat l) ∧ Below w.heap.size w w'

set_option maxHeartbeats 1000000 in
theorem nums_any (b o c : Nat) (zs : List Int) (n : Nat) (hz : zs.length = n) (hn : n ≤ 1000) (w : World) (hb : b < w.heap.size) (hc : ∀ k, k < n → w.cell? ⟨b, o + k, none⟩ = some (.int .i64 (zs.getD k 0))) :
    Calls Tryz.prog 27 #[.slice (some ⟨b, o, none⟩) n c] w (NewRow w (zs.map numV)) := by
  obtain ⟨i0, hi, hz0, hz1, hz2⟩ := info_parts value_info
  have HC := Lib.hid hc
  have HZ := Lib.hid hz
  clear hc hz
  go_enter Tryz.func27, Tryz.ntmps27
  go_wp2_with fail
  go_loopw [3, 4] (fun v i wr => ∃ k : Nat, k ≤ n ∧ i = .int .i64 k ∧ wr.ownsRow w.heap.size 49 3 v k (flat ((zs.map numV).take k)) ∧ Below w.heap.size w wr) (fun _ i _ => n - (intOf i).toNat)
  case atStart => exact ⟨0, Nat.zero_le _, rfl, World.ownsRow_nil _ _ _ _, Below.refl _ _⟩
  case round =>
    obtain ⟨k, hk, rfl, hown, hbl⟩ := hrel
    have HO := Lib.hid hown
    have HB := Lib.hid hbl
    have hs := hbl.size
    clear hown
    by_cases hlt : k < n
    · have hcell := (hbl.cell hb).trans (HC.out k hlt)
      have hsn := Lib.hid (flat_snoc (l := zs.map numV) (k := k) (v := numV (zs.getD k 0)) (by rw [List.getElem?_map, List.getElem?_eq_getElem (by rw [HZ.out]; exact hlt), List.getD_eq_getElem?_getD, List.getElem?_eq_getElem (by rw [HZ.out]; exact hlt)]; rfl))
      generalize zs.getD k 0 = x at *
      clear hbl
      go_wp2_with fail
      refine (keep_num x _).mono ?_
      rintro e w' ⟨rfl, rfl⟩
      go_wp2_with (at_builtin; refine wpList_append_own _ rfl _ _ 26 rfl w.heap.size 49 i0 _ 3 32 Tryz.underlying26 hi hz0 hz1 hz2 rfl (by decide) _ _ _ rfl ((HO.out.alloc _).alloc _) ⟨wr.heap.size + 1, 0, none⟩ 1 1 (V.cs (numV x)) rfl rfl ?c1 ?c2 ?c3 ?c4 ?c5 ?_)
      case c1 =>
        intro j u hj
        match j, hj with
        | 0, hj => simp [V.cs] at hj; subst hj; simp [Addr.add, numV]
        | 1, hj => simp [V.cs] at hj; subst hj; simp [Addr.add, numV]
        | 2, hj => simp [V.cs] at hj; subst hj; simp [Addr.add, numV]
      case c2 => rw [← flat_one]; exact flat_ones _
      case c3 => unfold maxLen; omega
      case c4 => omega
      case c5 => simp; omega
      intro v' w1 hown' hgrow _
      have ho2 : w1.ownsRow w.heap.size 49 3 v' (k + 1) (flat ((zs.map numV).take (k + 1))) := by rw [hsn.out]; exact hown'
      have hb2 := ((HB.out.alloc hs _).alloc (by simp; omega) _).grown hgrow (by simp; omega) (fun g hg => (HO.out.lt g hg).1)
      clear hown' hgrow hcell
      go_wp2_with fail
      go_roundw
      case rel => exact ⟨k + 1, by omega, by go_num, ho2, hb2⟩
      case measure => simp [intOf]; omega
    · clear hbl
      go_wp2_with fail
      go_ret
      obtain rfl : k = n := by omega
      have ho := HO.out
      rw [List.take_of_length_le (by simp [HZ.out])] at ho
      exact ⟨_, rfl, by simpa [HZ.out] using ho, HB.out⟩

end Go.Proofs.YtajnnkapgnmoaaaGreat
/-
  Package confluencekeep's contract: Str.
-/
namespace Go.Proofs.YtajnnkapgnmoaaaGreat
open Go.RowKit
theorem keep_str (s : ByteArray) (w : World) :
    Calls Tryz.prog 20 #[.string s] w fun e w' => e = .returned (.agg #[.int .i64 2, .int .i64 0, .string s]) ∧ w.alloc (.cells #[.int .i64 2, .int .i64 0, .string s] 49) = w' := by
  go_enter Tryz.func20, Tryz.ntmps20
  go_wp2
  exact bodyPost_ret (v := .agg #[.int .i64 2, .int .i64 0, .string s]) (by simp [results, Tryz.results20, go_sem]) rfl ⟨rfl, rfl⟩

end Go.Proofs.YtajnnkapgnmoaaaGreat
/-
  Package confluencekeep: T, U, One, Tame.
-/
set_option linter.unusedVariables false
set_option linter.unusedSimpArgs false
namespace Go.Proofs.YtajnnkapgnmoaaaGreat
open Go.RowKit

def uC : List C := [⟨⟨#[97]⟩, 1⟩, ⟨⟨#[99]⟩, 1⟩]
def tC : List C := [⟨⟨#[97]⟩, 1⟩, ⟨⟨#[98]⟩, 1⟩, ⟨⟨#[115]⟩, 2⟩]
theorem keepB_U (w : World) : Calls Tryz.prog 24 #[] w fun e w' => e = .returned (.slice (some ⟨w.heap.size, 0, none⟩) 2 2) ∧ w.alloc (.cells #[.string ⟨#[97]⟩, .int .i64 1, .string ⟨#[99]⟩, .int .i64 1] 100) = w' := by
  go_enter Tryz.func24, Tryz.ntmps24
  go_wp2_with fail
  go_ret
  exact ⟨rfl, rfl⟩
theorem keepB_T (w : World) : Calls Tryz.prog 25 #[] w fun e w' => e = .returned (.slice (some ⟨w.heap.size, 0, none⟩) 3 3) ∧ w.alloc (.cells #[.string ⟨#[97]⟩, .int .i64 1, .string ⟨#[98]⟩, .int .i64 1, .string ⟨#[115]⟩, .int .i64 2] 100) = w' := by
  go_enter Tryz.func25, Tryz.ntmps25
  go_wp2_with fail
  go_ret
  exact ⟨rfl, rfl⟩
/-- a set of one row, so often -/
theorem keep_one (n : Int) (A : Option Addr) (m c : Nat) (w : World) (h1 : -9223372036854775807 ≤ n) (h2 : n ≤ 9223372036854775807) :
    Calls Tryz.prog 26 #[.int .i64 n, .slice A m c] w fun e w' => e = .returned (.slice (some ⟨w.heap.size, 0, none⟩) 1 1) ∧ w.alloc (.cells #[.slice A m c, tal n] 47) = w' := by
  have hp := pos_bd n
  have hq := pos_bd (-n)
  have e0 : (0 : Nat) = Fl.F 0 := F_zero.symm
  by_cases h : n < 0
  · have et : tal n = .complex .f64 0 (floatOfInt .f64 (-n)) := by
      unfold tal
      rw [show pos n = 0 by omega, show pos (-n) = -n by omega, F_zero]
      rfl
    rw [et]
    clear hp hq e0 et
    go_enter Tryz.func26, Tryz.ntmps26
    go_wp2_with fail
    go_ret
    exact ⟨rfl, rfl⟩
  · have et : tal n = .complex .f64 (floatOfInt .f64 n) 0 := by
      unfold tal
      rw [show pos n = n by omega, show pos (-n) = 0 by omega, F_zero]
      rfl
    rw [et]
    clear hp hq e0 et
    go_enter Tryz.func26, Tryz.ntmps26
    go_wp2_with fail
    go_ret
    exact ⟨rfl, rfl⟩
def tS (s : ByteArray) : V := ⟨2, 0, s⟩
def tame0 (r : List V) : Int := match r with
  | [] => 0
  | x :: _ => x.n.tmod 4
def tame1 (r : List V) : Int := match r with
  | _ :: y :: _ => y.n.tmod 4
  | _ => 0
def tame2 (r : List V) : ByteArray := match r with
  | _ :: y :: _ => if 2 < y.s.size then y.s.extract 0 2 else y.s
  | _ => ⟨#[]⟩
def nmT : ByteArray := ⟨#[116]⟩
def nmU : ByteArray := ⟨#[117]⟩
/-- a change of t or u with small values: its table, its row -/
def tameK (nm : ByteArray) (r : List V) : ByteArray × List V := if nm.size % 2 = 0 then (nmT, [numV (tame0 r), numV (tame1 r), tS (tame2 r)]) else (nmU, [numV (tame0 r), numV (tame1 r)])
def rowCells (l : List V) : Array Value := (flat l).toArray
end Go.Proofs.YtajnnkapgnmoaaaGreat
/-
  Package confluencekeep: Tame.
-/
set_option linter.unusedVariables false
set_option linter.unusedSimpArgs false
namespace Go.Proofs.YtajnnkapgnmoaaaGreat
open Go.RowKit
theorem tame_nat (x : Int) : -4 < x.tmod 4 ∧ x.tmod 4 < 4 ∧ IntKind.i64.wrap (x.tmod 4) = x.tmod 4 := by
  have h1 := Int.tmod_lt_of_pos x (b := 4) (by omega)
  have h2 : -4 < x.tmod 4 := by
    rcases Int.lt_or_le x 0 with h | h
    · have h3 : (-x).tmod 4 < 4 := Int.tmod_lt_of_pos (-x) (by omega)
      rw [Int.neg_tmod] at h3
      omega
    · have := Int.tmod_nonneg 4 h
      omega
  refine ⟨h2, h1, ?_⟩
  rw [IntKind.wrap_i64]
  omega
def TameEnd (par : Bool) (a b : Int) (s : ByteArray) (rem : Bool) (w : World) (e : Ending) (w' : World) : Prop :=
  (∃ g, e = .returned (.agg #[.string (if par then nmT else nmU), .slice (some ⟨g, 0, none⟩) (if par then 3 else 2) (if par then 3 else 2), .bool rem]) ∧ w.heap.size ≤ g ∧ w'.heap[g]? = some (.cells (flat (if par then [numV a, numV b, tS s] else [numV a, numV b])).toArray 49 (0, 0))) ∧ Below w.heap.size w w'
theorem heap_alloc_at {w : World} {g : Nat} (h : g = w.heap.size) (o : Obj) : (w.alloc o).heap[g]? = some o := by subst h; exact heap_alloc_new w o
set_option maxHeartbeats 4000000 in
set_option maxRecDepth 100000 in
theorem tame_nil (nm : ByteArray) (A : Option Addr) (c n : Nat) (rem : Bool) (par : Bool) (w : World) (h0 : n = 0) (hn : nm.size ≤ 9223372036854775807) (hpar : ((nm.size : Int) % 2 == 0) = par) :
    Calls Tryz.prog 9 #[.agg #[.string nm, .slice A n c, .bool rem]] w fun e w' => TameEnd par (0) (0) ⟨#[]⟩ rem w e w' := by
  subst h0
  cases par
  · go_enter Tryz.func9, Tryz.ntmps9
    go_wp2_with (first | (go_at_call 14; refine (keep_num _ _).mono ?_; rintro e w' ⟨rfl, rfl⟩) | (go_at_call 20; refine (keep_str _ _).mono ?_; rintro e w' ⟨rfl, rfl⟩))
    refine bodyPost_ret (v := .agg #[.string nmU, .slice (some ⟨w.heap.size + 1 + 1 + 1 + 1, 0, none⟩) 2 2, .bool rem]) (by simp [results, Tryz.results9, go_sem, nmT, nmU]) rfl ?_
    refine ⟨⟨w.heap.size + 1 + 1 + 1 + 1, rfl, by omega, ?_⟩, ((((((Below.refl _ _).alloc (by simp <;> omega) _).alloc (by simp <;> omega) _).alloc (by simp <;> omega) _).alloc (by simp <;> omega) _).alloc (by simp <;> omega) _)⟩
    exact (heap_alloc_at (by simp) _).trans rfl
  · go_enter Tryz.func9, Tryz.ntmps9
    go_wp2_with (first | (go_at_call 14; refine (keep_num _ _).mono ?_; rintro e w' ⟨rfl, rfl⟩) | (go_at_call 20; refine (keep_str _ _).mono ?_; rintro e w' ⟨rfl, rfl⟩))
    refine bodyPost_ret (v := .agg #[.string nmT, .slice (some ⟨w.heap.size + 1 + 1 + 1 + 1 + 1, 0, none⟩) 3 3, .bool rem]) (by simp [results, Tryz.results9, go_sem, nmT, nmU]) rfl ?_
    refine ⟨⟨w.heap.size + 1 + 1 + 1 + 1 + 1, rfl, by omega, ?_⟩, (((((((Below.refl _ _).alloc (by simp <;> omega) _).alloc (by simp <;> omega) _).alloc (by simp <;> omega) _).alloc (by simp <;> omega) _).alloc (by simp <;> omega) _).alloc (by simp <;> omega) _)⟩
    exact (heap_alloc_at (by simp) _).trans rfl
set_option maxHeartbeats 4000000 in
set_option maxRecDepth 100000 in
theorem tame_one (nm : ByteArray) (b off c n : Nat) (A : Option Addr) (xn : Int) (rem : Bool) (par : Bool) (w : World) (hA : A = some ⟨b, off, none⟩) (hb : b < w.heap.size) (h1 : n = 1) (c1 : w.cell? ⟨b, off + 1, none⟩ = some (.int .i64 xn)) (hn : nm.size ≤ 9223372036854775807) (hpar : ((nm.size : Int) % 2 == 0) = par) :
    Calls Tryz.prog 9 #[.agg #[.string nm, .slice A n c, .bool rem]] w fun e w' => TameEnd par (xn.tmod 4) (0) ⟨#[]⟩ rem w e w' := by
  subst hA
  subst h1
  have t1 := (tame_nat xn).2.2
  have t3 := (tame_nat xn).1
  have t4 := (tame_nat xn).2.1
  cases par
  · go_enter Tryz.func9, Tryz.ntmps9
    go_wp2_with (first | (go_at_call 14; refine (keep_num _ _).mono ?_; rintro e w' ⟨rfl, rfl⟩) | (go_at_call 20; refine (keep_str _ _).mono ?_; rintro e w' ⟨rfl, rfl⟩))
    refine bodyPost_ret (v := .agg #[.string nmU, .slice (some ⟨w.heap.size + 1 + 1 + 1 + 1, 0, none⟩) 2 2, .bool rem]) (by simp [results, Tryz.results9, go_sem, nmT, nmU]) rfl ?_
    refine ⟨⟨w.heap.size + 1 + 1 + 1 + 1, rfl, by omega, ?_⟩, ((((((Below.refl _ _).alloc (by simp <;> omega) _).alloc (by simp <;> omega) _).alloc (by simp <;> omega) _).alloc (by simp <;> omega) _).alloc (by simp <;> omega) _)⟩
    exact (heap_alloc_at (by simp) _).trans rfl
  · go_enter Tryz.func9, Tryz.ntmps9
    go_wp2_with (first | (go_at_call 14; refine (keep_num _ _).mono ?_; rintro e w' ⟨rfl, rfl⟩) | (go_at_call 20; refine (keep_str _ _).mono ?_; rintro e w' ⟨rfl, rfl⟩))
    refine bodyPost_ret (v := .agg #[.string nmT, .slice (some ⟨w.heap.size + 1 + 1 + 1 + 1 + 1, 0, none⟩) 3 3, .bool rem]) (by simp [results, Tryz.results9, go_sem, nmT, nmU]) rfl ?_
    refine ⟨⟨w.heap.size + 1 + 1 + 1 + 1 + 1, rfl, by omega, ?_⟩, (((((((Below.refl _ _).alloc (by simp <;> omega) _).alloc (by simp <;> omega) _).alloc (by simp <;> omega) _).alloc (by simp <;> omega) _).alloc (by simp <;> omega) _).alloc (by simp <;> omega) _)⟩
    exact (heap_alloc_at (by simp) _).trans rfl
set_option maxHeartbeats 4000000 in
set_option maxRecDepth 100000 in
theorem tame_small (nm : ByteArray) (b off c n : Nat) (A : Option Addr) (xn yn : Int) (ys : ByteArray) (rem : Bool) (par : Bool) (w : World) (hA : A = some ⟨b, off, none⟩) (hb : b < w.heap.size) (h1 : 1 < n) (c1 : w.cell? ⟨b, off + 1, none⟩ = some (.int .i64 xn)) (c2 : w.cell? ⟨b, off + 1 * 3 + 1, none⟩ = some (.int .i64 yn)) (c3 : w.cell? ⟨b, off + 1 * 3 + 2, none⟩ = some (.string ys)) (hs : ¬ (2 : Int) < (ys.size : Int)) (hy : ys.size ≤ 9223372036854775807) (hn : nm.size ≤ 9223372036854775807) (hpar : ((nm.size : Int) % 2 == 0) = par) :
    Calls Tryz.prog 9 #[.agg #[.string nm, .slice A n c, .bool rem]] w fun e w' => TameEnd par (xn.tmod 4) (yn.tmod 4) ys rem w e w' := by
  subst hA
  have h0 : (0 : Int) < (n : Int) := by omega
  have t1 := (tame_nat xn).2.2
  have t3 := (tame_nat xn).1
  have t4 := (tame_nat xn).2.1
  have h2 : (1 : Int) < (n : Int) := by omega
  have t2 := (tame_nat yn).2.2
  have t5 := (tame_nat yn).1
  have t6 := (tame_nat yn).2.1
  cases par
  · go_enter Tryz.func9, Tryz.ntmps9
    go_wp2_with (first | (go_at_call 14; refine (keep_num _ _).mono ?_; rintro e w' ⟨rfl, rfl⟩) | (go_at_call 20; refine (keep_str _ _).mono ?_; rintro e w' ⟨rfl, rfl⟩))
    refine bodyPost_ret (v := .agg #[.string nmU, .slice (some ⟨w.heap.size + 1 + 1 + 1 + 1, 0, none⟩) 2 2, .bool rem]) (by simp [results, Tryz.results9, go_sem, nmT, nmU]) rfl ?_
    refine ⟨⟨w.heap.size + 1 + 1 + 1 + 1, rfl, by omega, ?_⟩, ((((((Below.refl _ _).alloc (by simp <;> omega) _).alloc (by simp <;> omega) _).alloc (by simp <;> omega) _).alloc (by simp <;> omega) _).alloc (by simp <;> omega) _)⟩
    exact (heap_alloc_at (by simp) _).trans rfl
  · go_enter Tryz.func9, Tryz.ntmps9
    go_wp2_with (first | (go_at_call 14; refine (keep_num _ _).mono ?_; rintro e w' ⟨rfl, rfl⟩) | (go_at_call 20; refine (keep_str _ _).mono ?_; rintro e w' ⟨rfl, rfl⟩))
    refine bodyPost_ret (v := .agg #[.string nmT, .slice (some ⟨w.heap.size + 1 + 1 + 1 + 1 + 1, 0, none⟩) 3 3, .bool rem]) (by simp [results, Tryz.results9, go_sem, nmT, nmU]) rfl ?_
    refine ⟨⟨w.heap.size + 1 + 1 + 1 + 1 + 1, rfl, by omega, ?_⟩, (((((((Below.refl _ _).alloc (by simp <;> omega) _).alloc (by simp <;> omega) _).alloc (by simp <;> omega) _).alloc (by simp <;> omega) _).alloc (by simp <;> omega) _).alloc (by simp <;> omega) _)⟩
    exact (heap_alloc_at (by simp) _).trans rfl
set_option maxHeartbeats 4000000 in
set_option maxRecDepth 100000 in
theorem tame_big (nm : ByteArray) (b off c n : Nat) (A : Option Addr) (xn yn : Int) (ys : ByteArray) (rem : Bool) (par : Bool) (w : World) (hA : A = some ⟨b, off, none⟩) (hb : b < w.heap.size) (h1 : 1 < n) (c1 : w.cell? ⟨b, off + 1, none⟩ = some (.int .i64 xn)) (c2 : w.cell? ⟨b, off + 1 * 3 + 1, none⟩ = some (.int .i64 yn)) (c3 : w.cell? ⟨b, off + 1 * 3 + 2, none⟩ = some (.string ys)) (hs : (2 : Int) < (ys.size : Int)) (hy : ys.size ≤ 9223372036854775807) (hn : nm.size ≤ 9223372036854775807) (hpar : ((nm.size : Int) % 2 == 0) = par) :
    Calls Tryz.prog 9 #[.agg #[.string nm, .slice A n c, .bool rem]] w fun e w' => TameEnd par (xn.tmod 4) (yn.tmod 4) (ys.extract 0 2) rem w e w' := by
  subst hA
  have h0 : (0 : Int) < (n : Int) := by omega
  have t1 := (tame_nat xn).2.2
  have t3 := (tame_nat xn).1
  have t4 := (tame_nat xn).2.1
  have h2 : (1 : Int) < (n : Int) := by omega
  have t2 := (tame_nat yn).2.2
  have t5 := (tame_nat yn).1
  have t6 := (tame_nat yn).2.1
  cases par
  · go_enter Tryz.func9, Tryz.ntmps9
    go_wp2_with (first | (go_at_call 14; refine (keep_num _ _).mono ?_; rintro e w' ⟨rfl, rfl⟩) | (go_at_call 20; refine (keep_str _ _).mono ?_; rintro e w' ⟨rfl, rfl⟩))
    refine bodyPost_ret (v := .agg #[.string nmU, .slice (some ⟨w.heap.size + 1 + 1 + 1 + 1, 0, none⟩) 2 2, .bool rem]) (by simp [results, Tryz.results9, go_sem, nmT, nmU]) rfl ?_
    refine ⟨⟨w.heap.size + 1 + 1 + 1 + 1, rfl, by omega, ?_⟩, ((((((Below.refl _ _).alloc (by simp <;> omega) _).alloc (by simp <;> omega) _).alloc (by simp <;> omega) _).alloc (by simp <;> omega) _).alloc (by simp <;> omega) _)⟩
    exact (heap_alloc_at (by simp) _).trans rfl
  · go_enter Tryz.func9, Tryz.ntmps9
    go_wp2_with (first | (go_at_call 14; refine (keep_num _ _).mono ?_; rintro e w' ⟨rfl, rfl⟩) | (go_at_call 20; refine (keep_str _ _).mono ?_; rintro e w' ⟨rfl, rfl⟩))
    refine bodyPost_ret (v := .agg #[.string nmT, .slice (some ⟨w.heap.size + 1 + 1 + 1 + 1 + 1, 0, none⟩) 3 3, .bool rem]) (by simp [results, Tryz.results9, go_sem, nmT, nmU]) rfl ?_
    refine ⟨⟨w.heap.size + 1 + 1 + 1 + 1 + 1, rfl, by omega, ?_⟩, (((((((Below.refl _ _).alloc (by simp <;> omega) _).alloc (by simp <;> omega) _).alloc (by simp <;> omega) _).alloc (by simp <;> omega) _).alloc (by simp <;> omega) _).alloc (by simp <;> omega) _)⟩
    exact (heap_alloc_at (by simp) _).trans rfl
end Go.Proofs.YtajnnkapgnmoaaaGreat
/-
  Package confluencekeep: Tame, whole; changes of t and u that fit.
-/
set_option linter.unusedVariables false
set_option linter.unusedSimpArgs false
namespace Go.Proofs.YtajnnkapgnmoaaaGreat
open Go.RowKit

/-- what Tame gives -/
def TameRet (nm : ByteArray) (r : List V) (rem : Bool) (w : World) (e : Ending) (w' : World) : Prop :=
  ∃ g, e = .returned (.agg #[.string (tameK nm r).1, .slice (some ⟨g, 0, none⟩) (tameK nm r).2.length (tameK nm r).2.length, .bool rem]) ∧ w.heap.size ≤ g ∧ w'.heap[g]? = some (.cells (flat (tameK nm r).2).toArray 49 (0, 0)) ∧ Below w.heap.size w w'
theorem TameEnd.ret {nm : ByteArray} {r : List V} {rem : Bool} {w w' : World} {e : Ending} {par : Bool} {a b : Int} {s : ByteArray} (hpar : ((nm.size : Int) % 2 == 0) = par) (ha : tame0 r = a) (hb : tame1 r = b) (hs : tame2 r = s) (h : TameEnd par a b s rem w e w') : TameRet nm r rem w e w' := by
  subst ha hb hs hpar
  obtain ⟨⟨g, h1, h2, h3⟩, h4⟩ := h
  by_cases hp : nm.size % 2 = 0
  · have hq : ((nm.size : Int) % 2 == 0) = true := by rw [beq_iff_eq]; omega
    rw [hq] at h1 h3
    have ek : tameK nm r = (nmT, [numV (tame0 r), numV (tame1 r), tS (tame2 r)]) := by unfold tameK; rw [if_pos hp]
    refine ⟨g, ?_, h2, ?_, h4⟩
    · rw [h1, ek]; rfl
    · rw [h3, ek]; rfl
  · have hq : ((nm.size : Int) % 2 == 0) = false := by rw [beq_eq_false_iff_ne]; omega
    rw [hq] at h1 h3
    have ek : tameK nm r = (nmU, [numV (tame0 r), numV (tame1 r)]) := by unfold tameK; rw [if_neg hp]
    refine ⟨g, ?_, h2, ?_, h4⟩
    · rw [h1, ek]; rfl
    · rw [h3, ek]; rfl
theorem tame_any (nm : ByteArray) (A : Option Addr) (c : Nat) (r : List V) (rem : Bool) (w : World) (hA : VRow w w.heap.size A r) (hn : nm.size ≤ 9223372036854775807) (hs : ∀ x ∈ r, x.s.size ≤ 9223372036854775807) :
    Calls Tryz.prog 9 #[.agg #[.string nm, .slice A r.length c, .bool rem]] w (TameRet nm r rem w) := by
  rcases r with _ | ⟨x, _ | ⟨y, r⟩⟩
  · exact (tame_nil nm A c 0 rem _ w rfl hn rfl).mono fun e w' h => h.ret rfl rfl rfl rfl
  · rcases hA with h | ⟨b, off, rfl, hb, hv⟩
    · cases h
    · exact (tame_one nm b off c 1 _ x.n rem _ w rfl hb rfl (by have := (hv 0 x rfl).2.1; simpa using this) hn rfl).mono fun e w' h => h.ret rfl rfl rfl rfl
  · rcases hA with h | ⟨b, off, rfl, hb, hv⟩
    · cases h
    · have c1 : w.cell? ⟨b, off + 1, none⟩ = some (.int .i64 x.n) := by have := (hv 0 x rfl).2.1; simpa using this
      obtain ⟨_, c2, c3⟩ := hv 1 y rfl
      by_cases h2 : (2 : Int) < (y.s.size : Int)
      · exact (tame_big nm b off c _ _ x.n y.n y.s rem _ w rfl hb (by simp) c1 c2 c3 h2 (hs y (by simp)) hn rfl).mono fun e w' h => h.ret rfl rfl rfl (by unfold tame2; dsimp only; rw [if_pos (by omega)])
      · exact (tame_small nm b off c _ _ x.n y.n y.s rem _ w rfl hb (by simp) c1 c2 c3 h2 (hs y (by simp)) hn rfl).mono fun e w' h => h.ret rfl rfl rfl (by unfold tame2; dsimp only; rw [if_neg (by omega)])
/-- a change of t or of u that fits its table -/
def GoodT (nm : ByteArray) (r : List V) : Prop := (nm = nmT ∧ fitsB tC r = true) ∨ (nm = nmU ∧ fitsB uC r = true)
theorem tame2_size (r : List V) : (tame2 r).size ≤ 2 := by
  unfold tame2
  split
  · split
    · simp; omega
    · omega
  · decide
theorem tame_good (nm : ByteArray) (r : List V) : GoodT (tameK nm r).1 (tameK nm r).2 := by
  unfold tameK
  split
  · refine .inl ⟨rfl, ?_⟩
    have h2 := tame2_size r
    unfold fitsB
    simp only [zipB, numV, tS, tC, V.okB, List.length_cons, List.length_nil]
    simp
    omega
  · refine .inr ⟨rfl, ?_⟩
    unfold fitsB
    simp only [zipB, numV, uC, V.okB, List.length_cons, List.length_nil]
    simp
theorem nmTU : nmT ≠ nmU := by decide
theorem cols_tC : colsE tC = 0 := by decide +kernel
theorem cols_uC : colsE uC = 0 := by decide +kernel
end Go.Proofs.YtajnnkapgnmoaaaGreat
/-
  confluenceref6.Make, ahead of its walk: an item put where it belongs.
-/
set_option linter.unusedVariables false
namespace Go.Proofs.YtajnnkapgnmoaaaGreat
open Go.RowKit

/-- is the row at a place less than another one? -/
def lessB (l : List IM) (k : Nat) (f : List V) : Bool := match l[k]? with
  | some y => rowLess y.r f
  | none => false
theorem rowLess_iff {a b : List V} (ha : rowOk a = true) (hb : rowOk b = true) : rowLess a b = true ↔ cmpR a b < 0 := by
  unfold rowLess
  rw [ha, hb]
  simp
theorem rowSame_iff {a b : List V} (ha : rowOk a = true) (hb : rowOk b = true) : rowSame a b = true ↔ a = b := by
  refine ⟨same_eq, fun e => ?_⟩
  subst e
  unfold rowSame
  rw [ha, cmp_self ha]
  rfl
theorem its_set {l : List IM} {q : Nat} {y : IM} (h : l[q]? = some y) (k : Int) : its (l.set q ⟨y.A, y.c, y.r, k⟩) = (its l).set q (y.r, k) := by
  unfold its
  rw [List.map_set]
  rfl
theorem its_get? {l : List IM} {q : Nat} {y : IM} (h : l[q]? = some y) : (its l)[q]? = some (y.r, y.k) := by
  unfold its
  rw [List.getElem?_map, h]
  rfl
theorem look_set : ∀ {l : List It} {q : Nat} {r0 : List V} {k0 : Int}, l[q]? = some (r0, k0) → ∀ (d : Int) (r : List V), look (l.set q (r0, k0 + d)) r = look l r + (if eqR r0 r = true then d else 0)
  | [], q, r0, k0, h, d, r => by simp at h
  | x :: l, 0, r0, k0, h, d, r => by
    obtain rfl : x = (r0, k0) := by simpa using h
    simp only [List.set_cons_zero, look]
    split <;> omega
  | x :: l, q + 1, r0, k0, h, d, r => by
    simp only [List.set_cons_succ, look, look_set (l := l) (by simpa using h) d r]
    omega
theorem ord_of_rows {a b : List It} (h : a.map Prod.fst = b.map Prod.fst) (ha : Ord a) : Ord b := by
  have e1 : (a.map Prod.fst).Pairwise fun x y => cmpR x y < 0 := List.pairwise_map.2 ha.ord
  rw [h] at e1
  refine ⟨List.pairwise_map.1 e1, fun x hx => ?_⟩
  have : x.1 ∈ a.map Prod.fst := by rw [h]; exact List.mem_map.2 ⟨x, hx, rfl⟩
  obtain ⟨y, hy, e⟩ := List.mem_map.1 this
  rw [← e]
  exact ha.rows y hy
theorem rows_set {l : List It} {q : Nat} {r0 : List V} {k0 : Int} (h : l[q]? = some (r0, k0)) (k : Int) : l.map Prod.fst = (l.set q (r0, k)).map Prod.fst := by
  rw [List.map_set]
  refine List.ext_getElem? fun j => ?_
  rw [List.getElem?_set]
  split
  · rename_i hij
    subst hij
    split
    · rw [List.getElem?_map, h]; rfl
    · rename_i hl
      rw [List.getElem?_eq_none (by omega)]
  · rfl
theorem Ord.set {l : List It} {q : Nat} {r0 : List V} {k0 : Int} (h : Ord l) (hq : l[q]? = some (r0, k0)) (k : Int) : Ord (l.set q (r0, k)) := ord_of_rows (rows_set hq k) h
/-- the items put together -/
def insM (l : List IM) (q : Nat) (x : IM) : List IM := (l.take q ++ [x]) ++ l.drop q
theorem its_ins (l : List IM) (q : Nat) (x : IM) : its (insM l q x) = (its (l.take q) ++ [x.it]) ++ its (l.drop q) := by
  unfold insM
  rw [its_append, its_append]
  rfl
theorem look_ins (l : List IM) (q : Nat) (x : IM) (r : List V) : look (its (insM l q x)) r = look (its l) r + (if eqR x.r r = true then x.k else 0) := by
  have e : its l = its (l.take q) ++ its (l.drop q) := by rw [← its_append, List.take_append_drop]
  rw [its_ins, look_append, look_append, e, look_append, look_one]
  show look _ r + (if eqR x.r r = true then x.k else 0) + look _ r = _
  omega
theorem insM_len (l : List IM) (q : Nat) (x : IM) (hq : q ≤ l.length) : (insM l q x).length = l.length + 1 := by
  unfold insM
  simp only [List.length_append, List.length_take, List.length_drop, List.length_cons, List.length_nil]
  omega
theorem insM_mem {l : List IM} {q : Nat} {x y : IM} (h : y ∈ insM l q x) : y ∈ l ∨ y = x := by
  unfold insM at h
  rcases List.mem_append.1 h with h | h
  · rcases List.mem_append.1 h with h | h
    · exact .inl (List.mem_of_mem_take h)
    · exact .inr (by simpa using h)
  · exact .inl (List.mem_of_mem_drop h)
theorem Ord.its_split {l : List IM} (h : Ord (its l)) (q : Nat) : Ord (its (l.take q)) ∧ Ord (its (l.drop q)) ∧ ∀ x ∈ its (l.take q), ∀ y ∈ its (l.drop q), cmpR x.1 y.1 < 0 := by
  have e : its l = its (l.take q) ++ its (l.drop q) := by rw [← its_append, List.take_append_drop]
  have h1 := h.ord
  rw [e, List.pairwise_append] at h1
  exact ⟨⟨h1.1, fun x hx => h.rows x (by rw [e]; exact List.mem_append_left _ hx)⟩, ⟨h1.2.1, fun x hx => h.rows x (by rw [e]; exact List.mem_append_right _ hx)⟩, h1.2.2⟩
theorem Ord.ins {l : List IM} {q : Nat} {x : IM} (h : Ord (its l)) (hx : rowOk x.r = true) (h1 : ∀ y ∈ l.take q, cmpR y.r x.r < 0) (h2 : lessB l q x.r = false) (h3 : moreB l q x.r = false) : Ord (its (insM l q x)) := by
  obtain ⟨o1, o2, o3⟩ := h.its_split q
  have hgt : ∀ y ∈ its (l.drop q), cmpR x.r y.1 < 0 := by
    cases hq : l[q]? with
    | none =>
      intro y hy
      rw [List.drop_of_length_le (List.getElem?_eq_none_iff.1 hq)] at hy
      simp [its] at hy
    | some z =>
      have hd := its_get hq
      have hz : rowOk z.r = true := h.rows z.it (List.mem_map.2 ⟨z, List.mem_of_getElem? hq, rfl⟩)
      have hlt : cmpR x.r z.r < 0 := by
        unfold lessB at h2
        unfold moreB at h3
        rw [hq] at h2 h3
        have n1 : ¬ cmpR z.r x.r < 0 := fun e => by have := (rowLess_iff hz hx).2 e; dsimp only at h2; rw [this] at h2; cases h2
        rcases cmpR_tri z.r x.r (rowOk_all hz) (rowOk_all hx) with h4 | h4 | h4
        · omega
        · omega
        · have := (rowSame_iff hz hx).2 h4.2.2
          dsimp only at h3
          rw [this] at h3
          cases h3
      intro y hy
      rw [hd] at hy o2
      rcases List.mem_cons.1 hy with rfl | hy
      · exact hlt
      · exact cmp_trans hx hz (o2.rows y (by simp [hy])) hlt (o2.head y hy)
  rw [its_ins]
  refine (o1.append (Ord.one hx) fun y hy z hz => ?_).append o2 fun y hy z hz => ?_
  · rw [List.mem_singleton.1 hz]
    obtain ⟨u, hu, rfl⟩ := List.mem_map.1 hy
    exact h1 u hu
  · rcases List.mem_append.1 hy with hy | hy
    · exact o3 y hy z hz
    · rw [List.mem_singleton.1 hy]; exact hgt z hz
/-- items that count -/
def nz (l : List IM) : List IM := l.filter fun x => !decide (x.k = 0)
theorem look_nz (l : List IM) (r : List V) : look (its (nz l)) r = look (its l) r := by
  induction l with
  | nil => rfl
  | cons x l ih =>
    unfold nz at ih ⊢
    have e : its (x :: l) = x.it :: its l := rfl
    rw [List.filter_cons]
    split
    · have e2 : its (x :: List.filter (fun x => !decide (x.k = 0)) l) = x.it :: its (List.filter (fun x => !decide (x.k = 0)) l) := rfl
      rw [e, e2]
      simp only [look, ih]
    · rename_i hx
      have hx0 : x.k = 0 := by simpa using hx
      rw [ih, e]
      simp only [look, IM.it, hx0]
      split <;> omega
theorem nz_ok {l : List IM} (h : Ord (its l)) : SetOk (its (nz l)) := by
  have hs : (its (nz l)).Sublist (its l) := (List.filter_sublist).map IM.it
  refine ⟨⟨h.ord.sublist hs, fun x hx => h.rows x (hs.subset hx)⟩, fun x hx => ?_⟩
  obtain ⟨y, hy, rfl⟩ := List.mem_map.1 hx
  have := (List.mem_filter.1 hy).2
  simpa [IM.it] using this
theorem nz_step {l : List IM} {k : Nat} {x : IM} (h : l[k]? = some x) : nz (l.take (k + 1)) = nz (l.take k) ++ (if x.k = 0 then [] else [x]) := by
  obtain ⟨h1, e1⟩ := List.getElem?_eq_some_iff.1 h
  rw [List.take_succ_eq_append_getElem h1, e1]
  unfold nz
  rw [List.filter_append]
  congr 1
  by_cases h0 : x.k = 0
  · rw [if_pos h0]; simp [h0]
  · rw [if_neg h0]; simp [h0]
theorem nz_len (l : List IM) : (nz l).length ≤ l.length := List.length_filter_le _ _
theorem vol_take_le (l : List IM) (k : Nat) : vol (its (l.take k)) ≤ vol (its l) := by
  have e : its l = its (l.take k) ++ its (l.drop k) := by rw [← its_append, List.take_append_drop]
  rw [e, vol_append]
  have := vol_nonneg (its (l.drop k))
  omega
theorem add_pos' {b off n : Nat} : (⟨b, off, none⟩ : Addr).add n = ⟨b, off + n, none⟩ := by
  unfold Addr.add; split
  · subst_vars; rfl
  · rfl
theorem flatM_set : ∀ (l : List IM) (i : Nat) (x : IM) (k : Int), l[i]? = some x → flatM (l.set i ⟨x.A, x.c, x.r, k⟩) = (flatM l).set (i * 2 + 1) (tal k)
  | [], i, x, k, h => by simp at h
  | y :: l, 0, x, k, h => by
    obtain rfl : y = x := by simpa using h
    rfl
  | y :: l, i + 1, x, k, h => by
    have ih := flatM_set l i x k (by simpa using h)
    show IM.cs y ++ flatM (l.set i _) = (IM.cs y ++ flatM l).set ((i + 1) * 2 + 1) _
    rw [ih, show (i + 1) * 2 + 1 = i * 2 + 1 + 1 + 1 by omega]
    rfl
theorem own_set_net {w : World} {base : Nat} {e : TypeId} {g cap m : Nat} {s : List IM} (h : w.ownsRow base e 2 (.slice (some ⟨g, 0, none⟩) m cap) m (flatM s)) {i : Nat} {x : IM} (hi : s[i]? = some x) (k : Int) :
    (w.setCell ⟨g, i * 2 + 1, none⟩ (tal k)).ownsRow base e 2 (.slice (some ⟨g, 0, none⟩) m cap) m (flatM (s.set i ⟨x.A, x.c, x.r, k⟩)) := by
  obtain ⟨h1, h2⟩ := h
  have hlen := flatM_len s
  refine ⟨by rw [flatM_len, List.length_set, ← hlen]; exact h1, .inr ?_⟩
  rcases h2 with ⟨h', _⟩ | ⟨g', cap', cur, h', hb, hg, hnc, hcm, hcs, htake⟩
  · simp at h'
  · simp only [Value.slice.injEq, Option.some.injEq, Addr.mk.injEq, and_true, true_and] at h'
    obtain ⟨rfl, rfl⟩ := h'
    refine ⟨g, cap, cur.setIfInBounds (i * 2 + 1) (tal k), rfl, hb, Blk.set_ hg _ _, hnc, hcm, by simpa using hcs, ?_⟩
    rw [Array.toList_setIfInBounds, List.take_set, htake, flatM_set s i x k hi]
/-- the cells of an item in a row of the call's own -/
theorem own_cells {w : World} {base : Nat} {e : TypeId} {g cap m : Nat} {s : List IM} (h : w.ownsRow base e 2 (.slice (some ⟨g, 0, none⟩) m cap) m (flatM s)) {i : Nat} {x : IM} (hi : s[i]? = some x) :
    w.cell? ⟨g, i * 2, none⟩ = some (.slice x.A x.r.length x.c) ∧ w.cell? ⟨g, i * 2 + 1, none⟩ = some (tal x.k) := by
  obtain ⟨f1, f2⟩ := flatM_get s i x hi
  have hl := flatM_len s
  have h1 := h.1
  have hlt : i < s.length := (List.getElem?_eq_some_iff.1 hi).1
  have hm : s.length = m := by omega
  have c := fun j hj => h.cells (g := g) rfl (j := j) hj
  have c1 := h.cells (g := g) rfl (i * 2) _ f1
  have c2 := h.cells (g := g) rfl (i * 2 + 1) _ f2
  rw [add_pos', Nat.zero_add] at c1 c2
  exact ⟨c1, c2⟩
theorem own_reads {w : World} {base : Nat} {e : TypeId} {g cap m q : Nat} {s : List IM} (h : w.ownsRow base e 2 (.slice (some ⟨g, 0, none⟩) m cap) m (flatM s)) (hm : s.length = m) (hq : q ≤ m) (B : Nat) (hB : g < B) :
    Reads w B 2 (some ⟨g, 0, none⟩) q (flatM (s.take q)) ∧ Reads w B 2 (some ⟨g, q * 2, none⟩) (m - q) (flatM (s.drop q)) := by
  refine ⟨⟨by rw [flatM_len, List.length_take]; congr 1; omega, fun _ => ⟨_, rfl, hB, fun j u hu => ?_⟩⟩, ⟨by rw [flatM_len, List.length_drop]; congr 1; omega, fun _ => ⟨_, rfl, hB, fun j u hu => ?_⟩⟩⟩
  · refine h.cells (g := g) rfl j u ?_
    have e : flatM s = flatM (s.take q) ++ flatM (s.drop q) := by rw [← flatM_append, List.take_append_drop]
    rw [e, List.getElem?_append_left (List.getElem?_eq_some_iff.1 hu).1]
    exact hu
  · have e : flatM s = flatM (s.take q) ++ flatM (s.drop q) := by rw [← flatM_append, List.take_append_drop]
    have hlt : (flatM (s.take q)).length = q * 2 := by rw [flatM_len, List.length_take]; congr 1; omega
    have := h.cells (g := g) rfl (q * 2 + j) u (by
      rw [e, List.getElem?_append_right (by omega), hlt, show q * 2 + j - q * 2 = j from by omega]
      exact hu)
    rw [add_pos'] at this ⊢
    rw [← this]
    congr 2
    omega
theorem own_block {w : World} {base z n : Nat} {e : TypeId} {A : Option Addr} {g c : Nat} {xs : List Value} (h : w.ownsRow base e z (.slice A n c) n xs) (hA : A = some ⟨g, 0, none⟩) : ∃ cs, Blk w g e cs := by
  subst hA
  rcases h.2 with ⟨h', _⟩ | ⟨g', cap', cur, h', hb, hg, _⟩
  · simp at h'
  · simp only [Value.slice.injEq, Option.some.injEq, Addr.mk.injEq, and_true, true_and] at h'
    obtain ⟨rfl, rfl⟩ := h'
    exact ⟨cur, hg⟩
/-- where all lies, behind an item put in its place -/
theorem ins_rows {w wo w1 w2 w3 : World} {W0 q xn : Nat} {e ev : TypeId} (hne : e ≠ ev) {u v4 v' v'' : Value} {al : List IM} {x' : IM} {xs : List Value}
    (hor : ∀ y ∈ al, VRowS wo (fun g => NewS w wo g ∧ u.ownBlock ≠ some g) y.A y.r) (hw : w.heap.size ≤ wo.heap.size) (hW0 : wo.heap.size ≤ W0) (hb1 : Below wo.heap.size wo w1)
    (own4 : w1.ownsRow W0 e 2 v4 q xs) (own5 : w1.ownsRow W0 ev 3 (.slice x'.A xn x'.c) xn (flat x'.r)) (hxn : x'.r.length = xn) (h0 : 0 < xn) (hW1 : W0 ≤ w1.heap.size)
    (g2 : w1.grownBy w2 v4.ownBlock) (at2 : v'.ownBlock = v4.ownBlock ∨ v'.ownBlock = some w1.heap.size)
    (g3 : w2.grownBy w3 v'.ownBlock) (at3 : v''.ownBlock = v'.ownBlock ∨ v''.ownBlock = some w2.heap.size) :
    (∀ y ∈ insM al q x', VRowS w3 (fun g => NewS w w3 g ∧ v''.ownBlock ≠ some g) y.A y.r) ∧ Below wo.heap.size wo w3 ∧ ∀ g, v''.ownBlock = some g → W0 ≤ g := by
  have s1 := hb1.size
  have s2 := g2.size
  have s3 := g3.size
  have o4 : ∀ g, v4.ownBlock = some g → W0 ≤ g := fun g h => (own4.lt g h).1
  have o' : ∀ g, v'.ownBlock = some g → W0 ≤ g := fun g h => by
    rcases at2 with e | e
    · exact o4 g (e ▸ h)
    · rw [e] at h; have := Option.some.inj h; omega
  have o'' : ∀ g, v''.ownBlock = some g → W0 ≤ g := fun g h => by
    rcases at3 with e | e
    · exact o' g (e ▸ h)
    · rw [e] at h; have := Option.some.inj h; omega
  have hb2 := hb1.grown g2 s1 (fun k h => by have := o4 k h; omega)
  have hb3 := hb2.grown g3 (by omega) (fun k h => by have := o' k h; omega)
  refine ⟨fun y hy => ?_, hb3, o''⟩
  rcases insM_mem hy with hy | rfl
  · refine ((hor y hy).kept fun g hg => hb3.block g hg.1.2.1).mono fun g hg => ⟨hg.1.below hb3, fun h => ?_⟩
    have := o'' g h
    have := hg.1.2.1
    omega
  · obtain ⟨g6, cap, hv, hcap, hb6, hlt6, hA, hf⟩ := own_full own5 hxn h0
    have hA5 : y.A = some ⟨g6, 0, none⟩ := by simp only [Value.slice.injEq] at hv; exact hv.1
    obtain ⟨cs, hB⟩ := own_block own5 hA5
    have n4 : v4.ownBlock ≠ some g6 := own_blk_ne own4 hB hne
    have n' : v'.ownBlock ≠ some g6 := fun h => by
      rcases at2 with e | e
      · exact n4 (e ▸ h)
      · rw [e] at h; have := Option.some.inj h; omega
    have n'' : v''.ownBlock ≠ some g6 := fun h => by
      rcases at3 with e | e
      · exact n' (e ▸ h)
      · rw [e] at h; have := Option.some.inj h; omega
    have k2 : w2.heap[g6]? = w1.heap[g6]? := g2.block g6 hlt6 fun h => n4 h.symm
    have k3 : w3.heap[g6]? = w2.heap[g6]? := g3.block g6 (by omega) fun h => n' h.symm
    refine .inr ⟨g6, 0, hA5, ⟨⟨by omega, by omega, fun o => ?_⟩, n''⟩, (hA.kept k2).kept k3⟩
    rw [frozen_of_block k3, frozen_of_block k2]
    exact hf o
end Go.Proofs.YtajnnkapgnmoaaaGreat
/-
  law 16's tables, ahead of the walk: which rows go where; two growing rows side by side.
-/
set_option linter.unusedVariables false
namespace Go.Proofs.YtajnnkapgnmoaaaGreat
open Go.RowKit

theorem tal_one : tal 1 = .complex .f64 4607182418800017408 0 := by
  have h : Fl.F 1 = 4607182418800017408 := by decide +kernel
  unfold tal
  rw [show pos 1 = 1 from rfl, show pos (-1) = 0 from rfl, h, F_zero]
def isT (c : Ch) : Bool := c.nm.size % 2 == 0
def tameI (c : Ch) : It := ((tameK c.nm c.r).2, 1)
def partT (l : List Ch) : List It := (l.filter isT).map tameI
def partU (l : List Ch) : List It := (l.filter fun c => !isT c).map tameI
/-- the set of items -/
def setOf (l : List It) : List It := l.foldl (fun s x => addS s x.1 x.2) []
theorem addAll_both : ∀ {b a : List It}, SetOk a → (∀ x ∈ b, rowOk x.1 = true ∧ x.2 ≠ 0) → SetOk (b.foldl (fun s x => addS s x.1 x.2) a) ∧ ∀ q, look (b.foldl (fun s x => addS s x.1 x.2) a) q = look a q + look b q
  | [], a, ha, _ => ⟨ha, fun q => by simp [look]⟩
  | x :: b, a, ha, hb => by
    obtain ⟨h0, h1⟩ := hb x (by simp)
    obtain ⟨h2, h3⟩ := addAll_both (b := b) (addS_ok ha h0 h1) fun y hy => hb y (by simp [hy])
    refine ⟨h2, fun q => ?_⟩
    show look (b.foldl (fun s x => addS s x.1 x.2) (addS a x.1 x.2)) q = _
    rw [h3, look_addS]
    simp only [look]
    omega
theorem setOf_ok {l : List It} (h : ∀ x ∈ l, rowOk x.1 = true ∧ x.2 ≠ 0) : SetOk (setOf l) ∧ ∀ q, look (setOf l) q = look l q := by
  obtain ⟨h1, h2⟩ := addAll_both SetOk.nil h
  exact ⟨h1, fun q => (h2 q).trans (by simp [look])⟩
theorem setOf_eq {l s : List It} (h : ∀ x ∈ l, rowOk x.1 = true ∧ x.2 ≠ 0) (hs : SetOk s) (hl : ∀ q, look s q = look l q) : s = setOf l :=
  set_eq hs (setOf_ok h).1 fun q => (hl q).trans ((setOf_ok h).2 q).symm
def moreU (n : Int) : List It := if 0 < n then [([numV 7, numV 7], n)] else []
def tabsK (n : Int) (l : List Ch) : List Key := [(nmU, uC, setOf (partU (l.take 20) ++ moreU n)), (nmT, tC, setOf (partT (l.take 20)))]
theorem good_rowOk {nm : ByteArray} {r : List V} (h : GoodT nm r) : rowOk r = true := by
  rcases h with ⟨_, h⟩ | ⟨_, h⟩
  · exact rowOk_of cols_tC h
  · exact rowOk_of cols_uC h
theorem tameI_ok (c : Ch) : rowOk (tameI c).1 = true ∧ (tameI c).2 ≠ 0 := ⟨good_rowOk (tame_good c.nm c.r), by show (1 : Int) ≠ 0; omega⟩
theorem partT_ok (l : List Ch) : ∀ x ∈ partT l, rowOk x.1 = true ∧ x.2 ≠ 0 := fun x hx => by
  obtain ⟨c, _, rfl⟩ := List.mem_map.1 hx
  exact tameI_ok c
theorem row77 : rowOk [numV 7, numV 7] = true ∧ fitsB uC [numV 7, numV 7] = true := by decide +kernel
theorem partU_ok (n : Int) (l : List Ch) : ∀ x ∈ partU l ++ moreU n, rowOk x.1 = true ∧ x.2 ≠ 0 := fun x hx => by
  rcases List.mem_append.1 hx with hx | hx
  · obtain ⟨c, _, rfl⟩ := List.mem_map.1 hx
    exact tameI_ok c
  · unfold moreU at hx
    split at hx
    · rw [List.mem_singleton.1 hx]
      exact ⟨row77.1, by show n ≠ 0; omega⟩
    · simp at hx
theorem vol_tame : ∀ (l : List Ch), vol (l.map tameI) = l.length
  | [] => rfl
  | c :: l => by
    simp only [List.map_cons, vol, vol_tame l, List.length_cons, tameI]
    omega
theorem partT_vol (l : List Ch) : vol (partT l) ≤ l.length := by
  unfold partT
  rw [vol_tame]
  have := List.length_filter_le isT l
  omega
theorem partU_vol (l : List Ch) : vol (partU l) ≤ l.length := by
  unfold partU
  rw [vol_tame]
  have := List.length_filter_le (fun c => !isT c) l
  omega
theorem part_step {l : List Ch} {k : Nat} {c : Ch} (h : l[k]? = some c) : (isT c = true → partT (l.take (k + 1)) = partT (l.take k) ++ [tameI c] ∧ partU (l.take (k + 1)) = partU (l.take k)) ∧ (isT c = false → partT (l.take (k + 1)) = partT (l.take k) ∧ partU (l.take (k + 1)) = partU (l.take k) ++ [tameI c]) := by
  obtain ⟨h1, e1⟩ := List.getElem?_eq_some_iff.1 h
  rw [List.take_succ_eq_append_getElem h1, e1]
  unfold partT partU
  rw [List.filter_append, List.filter_append, List.map_append, List.map_append]
  constructor <;> intro hc <;> simp [hc]
theorem tame_isT (c : Ch) : (isT c = true → (tameK c.nm c.r).1 = nmT ∧ (tameK c.nm c.r).2.length = 3) ∧ (isT c = false → (tameK c.nm c.r).1 = nmU ∧ (tameK c.nm c.r).2.length = 2) := by
  unfold isT tameK
  constructor
  · intro h
    rw [if_pos (by simpa using h)]
    exact ⟨rfl, rfl⟩
  · intro h
    rw [if_neg (by simpa using h)]
    exact ⟨rfl, rfl⟩
theorem KeysOk_tabs (n : Int) (hn : n ≤ 100) (l : List Ch) : KeysOk 200 (tabsK n l) := by
  obtain ⟨u1, u2⟩ := setOf_ok (partU_ok n (l.take 20))
  obtain ⟨t1, t2⟩ := setOf_ok (partT_ok (l.take 20))
  have hl : (l.take 20).length ≤ 20 := by rw [List.length_take]; omega
  have hm : vol (moreU n) ≤ 100 ∧ ∀ q, 0 ≤ look (moreU n) q := by
    unfold moreU
    split
    · refine ⟨by simp only [vol]; omega, fun q => ?_⟩
      rw [look_one]
      split <;> omega
    · exact ⟨by simp [vol], fun q => by simp [look]⟩
  have hp : ∀ (p : List Ch), (∀ q, 0 ≤ look (p.map tameI) q) := fun p q => by
    refine look_pos (fun x hx => ?_) q
    obtain ⟨c, _, rfl⟩ := List.mem_map.1 hx
    show (0 : Int) ≤ 1
    omega
  have fitsAll : ∀ (p : List It) (cols : List C), (∀ x ∈ p, fitsB cols x.1 = true) → (∀ x ∈ p, rowOk x.1 = true ∧ x.2 ≠ 0) → ∀ x ∈ setOf p, fitsB cols x.1 = true := fun p cols h1 h2 x hx => by
    have hs := setOf_ok h2
    have h0 := hs.1.nets x hx
    have h3 := hs.2 x.1
    rw [hs.1.toOrd.look_mem hx] at h3
    by_cases hm : ∃ y ∈ p, y.1 = x.1
    · obtain ⟨y, hy, e⟩ := hm
      rw [← e]; exact h1 y hy
    · exact absurd (h3.trans (look_none fun y hy e => hm ⟨y, hy, e⟩)) h0
  refine ⟨by simp [tabsK], by show defsE [(nmU, uC), (nmT, tC)] = 0; decide +kernel, fun t ht => ?_⟩
  simp only [tabsK, List.mem_cons, List.not_mem_nil, or_false] at ht
  rcases ht with rfl | rfl
  · refine ⟨u1, ?_, plain_of u1 fun q => ?_, ?_⟩
    · have h1 := SetOk.vol_le u1.toOrd u2
      have h2 := partU_vol (l.take 20)
      rw [vol_append] at h1
      dsimp only
      omega
    · rw [u2, look_append]
      have := hp ((l.take 20).filter fun c => !isT c) q
      have := hm.2 q
      unfold partU
      omega
    · refine fitsAll _ _ (fun x hx => ?_) (partU_ok n _)
      rcases List.mem_append.1 hx with hx | hx
      · obtain ⟨c, hc, rfl⟩ := List.mem_map.1 hx
        have hc2 : isT c = false := by have := (List.mem_filter.1 hc).2; simpa using this
        have hn2 := ((tame_isT c).2 hc2).1
        rcases tame_good c.nm c.r with ⟨e, _⟩ | ⟨_, h⟩
        · rw [hn2] at e; exact absurd e.symm nmTU
        · exact h
      · unfold moreU at hx
        split at hx
        · rw [List.mem_singleton.1 hx]; exact row77.2
        · simp at hx
  · refine ⟨t1, ?_, plain_of t1 fun q => ?_, ?_⟩
    · have h1 := SetOk.vol_le t1.toOrd t2
      have h2 := partT_vol (l.take 20)
      dsimp only
      omega
    · rw [t2]; exact hp _ q
    · refine fitsAll _ _ (fun x hx => ?_) (partT_ok _)
      obtain ⟨c, hc, rfl⟩ := List.mem_map.1 hx
      have hc2 : isT c = true := (List.mem_filter.1 hc).2
      have hn2 := ((tame_isT c).1 hc2).1
      rcases tame_good c.nm c.r with ⟨_, h⟩ | ⟨e, _⟩
      · exact h
      · rw [hn2] at e; exact absurd e nmTU
theorem vals_of_blk {w : World} {g : Nat} {e : TypeId} {r : List V} {S : Nat → Prop} (h : Blk w g e (flat r).toArray) (hS : S g) : VRowS w S (some ⟨g, 0, none⟩) r :=
  .inr ⟨g, 0, rfl, hS, fun i v hv => by
    obtain ⟨f1, f2, f3⟩ := flat_get r i v hv
    rw [Nat.zero_add, h.cell, h.cell, h.cell]
    exact ⟨by simpa using f1, by simpa using f2, by simpa using f3⟩⟩
/-- an item appended to one of two rows of the call's own -/
theorem snoc_two {w2 wo w4 w5 : World} {u v' : Value} {ol pl : List IM} {o2 : Option Nat} {x' : IM} (hor : ∀ x ∈ ol, VRowS wo (fun g => NewS w2 wo g ∧ u.ownBlock ≠ some g ∧ o2 ≠ some g) x.A x.r) (hpr : ∀ x ∈ pl, VRowS wo (fun g => NewS w2 wo g ∧ u.ownBlock ≠ some g ∧ o2 ≠ some g) x.A x.r)
    (hown : ∀ g, u.ownBlock = some g → w2.heap.size ≤ g ∧ g < wo.heap.size) (ho2 : ∀ g, o2 = some g → w2.heap.size ≤ g ∧ g < wo.heap.size) (hne : ∀ g, u.ownBlock = some g → o2 ≠ some g)
    (hs : w2.heap.size ≤ wo.heap.size) (hb2 : Below w2.heap.size w2 wo) (hb4 : Below wo.heap.size wo w4) (hx : VRowS w4 (NewS wo w4) x'.A x'.r) (o : Obj) (hgrow : (w4.alloc o).grownBy w5 u.ownBlock) (hat : v'.ownBlock = u.ownBlock ∨ v'.ownBlock = some (w4.heap.size + 1)) :
    (∀ z ∈ ol ++ [x'], VRowS w5 (fun g => NewS w2 w5 g ∧ v'.ownBlock ≠ some g ∧ o2 ≠ some g) z.A z.r) ∧ (∀ z ∈ pl, VRowS w5 (fun g => NewS w2 w5 g ∧ v'.ownBlock ≠ some g ∧ o2 ≠ some g) z.A z.r) ∧ Below w2.heap.size w2 w5 ∧ ∀ g, v'.ownBlock = some g → o2 ≠ some g := by
  have hs4 := hb4.size
  have hblk : ∀ g, g < w4.heap.size → u.ownBlock ≠ some g → w5.heap[g]? = w4.heap[g]? := fun g h1 h2 => (hgrow.block g (by simp; omega) (fun e => h2 e.symm)).trans (Below.heap_alloc w4 _ g h1)
  have hbw4 : Below w2.heap.size w2 w4 := hb2.trans (hb4.mono hs)
  have hsz5 : w4.heap.size + 1 ≤ w5.heap.size := by have := hgrow.size; simpa using this
  have hold : ∀ z : IM, VRowS wo (fun g => NewS w2 wo g ∧ u.ownBlock ≠ some g ∧ o2 ≠ some g) z.A z.r → VRowS w5 (fun g => NewS w2 w5 g ∧ v'.ownBlock ≠ some g ∧ o2 ≠ some g) z.A z.r := fun z hz => by
    have hk : ∀ g, NewS w2 wo g ∧ u.ownBlock ≠ some g ∧ o2 ≠ some g → w5.heap[g]? = wo.heap[g]? := fun g hg => (hblk g (by have := hg.1.2.1; omega) hg.2.1).trans (hb4.block g hg.1.2.1)
    refine (hz.kept hk).mono fun g hg => ⟨⟨hg.1.1, by have := hg.1.2.1; omega, fun o => (frozen_of_block (hk g hg)).trans (hg.1.2.2 o)⟩, ?_, hg.2.2⟩
    rcases hat with h | h
    · rw [h]; exact hg.2.1
    · rw [h]; intro e; have := Option.some.inj e; have := hg.1.2.1; omega
  refine ⟨fun z hz => ?_, fun z hz => hold z (hpr z hz), (hbw4.alloc hbw4.size _).grown hgrow (by simp; omega) (fun g hg => (hown g hg).1), fun g hg => ?_⟩
  · rcases List.mem_append.1 hz with hz | hz
    · exact hold z (hor z hz)
    · rw [List.mem_singleton.1 hz]
      have hne6 : ∀ g, NewS wo w4 g → u.ownBlock ≠ some g := fun g hg e => by have := (hown g e).2; have := hg.1; omega
      refine (hx.kept (fun g hg => hblk g hg.2.1 (hne6 g hg))).mono fun g hg => ⟨⟨by have := hg.1; omega, by have := hg.2.1; omega, fun o => (frozen_of_block (hblk g hg.2.1 (hne6 g hg))).trans (hg.2.2 o)⟩, ?_, fun e => by have := (ho2 g e).2; have := hg.1; omega⟩
      rcases hat with h | h
      · rw [h]; exact hne6 g hg
      · rw [h]; intro e; have := Option.some.inj e; have := hg.2.1; omega
  · rcases hat with h | h
    · exact hne g (h ▸ hg)
    · rw [h] at hg
      have := Option.some.inj hg
      intro e
      have := (ho2 g e).2
      omega
/-- the tables t and u that law 16 makes -/
def TabsRet (w : World) (ks : List Key) (w' : World) (v : Value) : Prop := ∃ (g : Nat) (s : List TM), v = .slice (some ⟨g, 0, none⟩) 2 2 ∧ TRow w' (fun k => w.heap.size ≤ k ∧ k < w'.heap.size) (some ⟨g, 0, none⟩) s ∧ s.map TM.key = ks ∧ ∀ t ∈ s, t.cols.length ≤ t.cc
theorem setCell_size' (w : World) (p : Addr) (u : Value) : (w.setCell p u).heap.size = w.heap.size := by simp [World.setCell]
theorem tabs_end {w w3 wx w5 w6 : World} {n : Int} {LK : List Ch} {A8 A9 : Option Addr} {c8 c9 : Nat} {s8 s9 ul tl : List IM}
    (hs3 : w.heap.size + 1 + 1 + 1 ≤ w3.heap.size) (hw3 : Below w.heap.size w w3)
    (hbu : Blk w3 w.heap.size 100 #[.string ⟨#[97]⟩, .int .i64 1, .string ⟨#[99]⟩, .int .i64 1])
    (hbt : Blk w3 (w.heap.size + 1) 100 #[.string ⟨#[97]⟩, .int .i64 1, .string ⟨#[98]⟩, .int .i64 1, .string ⟨#[115]⟩, .int .i64 2])
    (hbo : Blk w3 (w.heap.size + 1 + 1) 44 #[.string ⟨#[117]⟩, .slice (some ⟨w.heap.size, 0, none⟩) 2 2, .slice none 0 0, .string ⟨#[116]⟩, .slice (some ⟨w.heap.size + 1, 0, none⟩) 3 3, .slice none 0 0])
    (hbx : Below w3.heap.size w3 wx) (h8 : SetRet wx (its ul) w5 A8 c8 s8) (hb5 : Below wx.heap.size wx w5)
    (h9 : SetRet (w5.setCell ⟨w.heap.size + 1 + 1, 2, none⟩ (.slice A8 s8.length c8)) (its tl) w6 A9 c9 s9) (hb6 : Below (w5.setCell ⟨w.heap.size + 1 + 1, 2, none⟩ (.slice A8 s8.length c8)).heap.size (w5.setCell ⟨w.heap.size + 1 + 1, 2, none⟩ (.slice A8 s8.length c8)) w6)
    (hu : its ul = partU (LK.take 20) ++ moreU n) (ht : its tl = partT (LK.take 20)) :
    TabsRet w (tabsK n LK) (w6.setCell ⟨w.heap.size + 1 + 1, 5, none⟩ (.slice A9 s9.length c9)) (.slice (some ⟨w.heap.size + 1 + 1, 0, none⟩) 2 2) ∧ Below w.heap.size w (w6.setCell ⟨w.heap.size + 1 + 1, 5, none⟩ (.slice A9 s9.length c9)) := by
  have sx := hbx.size
  have s5 := hb5.size
  have s6 := hb6.size
  rw [setCell_size'] at s6 hb6
  have hb5' : Below w3.heap.size w3 w5 := hbx.trans (hb5.mono sx)
  have k5 : ∀ k, k < w3.heap.size → w5.heap[k]? = w3.heap[k]? := fun k h => hb5'.block k h
  have k6 : ∀ k, k < w5.heap.size → k ≠ w.heap.size + 1 + 1 → (w6.setCell ⟨w.heap.size + 1 + 1, 5, none⟩ (.slice A9 s9.length c9)).heap[k]? = w5.heap[k]? := fun k h1 h2 =>
    ((Below.heap_setCell w6 ⟨w.heap.size + 1 + 1, 5, none⟩ _ k h2).trans (hb6.block k h1)).trans (Below.heap_setCell w5 ⟨w.heap.size + 1 + 1, 2, none⟩ _ k h2)
  have hO5 : Blk w5 (w.heap.size + 1 + 1) 44 _ := Blk.below hbo hb5' (by omega)
  have hO6 := (Blk.set_ hO5 2 (.slice A8 s8.length c8)).below hb6 (by omega)
  have hOf := Blk.set_ hO6 5 (.slice A9 s9.length c9)
  have hsz := setCell_size' w6 ⟨w.heap.size + 1 + 1, 5, none⟩ (.slice A9 s9.length c9)
  obtain ⟨_, r8, o8, l8⟩ := h8
  obtain ⟨_, r9, o9, l9⟩ := h9
  have e8 : its s8 = setOf (partU (LK.take 20) ++ moreU n) := setOf_eq (partU_ok n _) o8 (fun q => by rw [l8, hu])
  have e9 : its s9 = setOf (partT (LK.take 20)) := setOf_eq (partT_ok _) o9 (fun q => by rw [l9, ht])
  refine ⟨⟨w.heap.size + 1 + 1, [⟨nmU, some ⟨w.heap.size, 0, none⟩, 2, uC, A8, c8, s8⟩, ⟨nmT, some ⟨w.heap.size + 1, 0, none⟩, 3, tC, A9, c9, s9⟩], rfl, ⟨.inr ⟨_, 0, rfl, ⟨by omega, by omega⟩, ?_⟩, ?_, ?_⟩, ?_, ?_⟩, ?_⟩
  · intro i t hi
    match i, hi with
    | 0, hi =>
      obtain rfl := Option.some.inj hi
      refine ⟨?_, ?_, ?_⟩
      · exact (hOf.cell 0).trans rfl
      · exact (hOf.cell 1).trans rfl
      · exact (hOf.cell 2).trans rfl
    | 1, hi =>
      obtain rfl := Option.some.inj hi
      refine ⟨?_, ?_, ?_⟩
      · exact (hOf.cell 3).trans rfl
      · exact (hOf.cell 4).trans rfl
      · exact (hOf.cell 5).trans rfl
    | i + 2, hi => simp at hi
  · intro t hm
    simp only [List.mem_cons, List.not_mem_nil, or_false] at hm
    rcases hm with rfl | rfl
    · refine .inr ⟨w.heap.size, 0, rfl, ⟨Nat.le_refl _, by omega⟩, fun i c hi => ?_⟩
      have hB : Blk (w6.setCell ⟨w.heap.size + 1 + 1, 5, none⟩ (.slice A9 s9.length c9)) w.heap.size 100 _ := ((k6 _ (by omega) (by omega)).trans (k5 _ (by omega))).trans hbu
      match i, hi with
      | 0, hi => obtain rfl := Option.some.inj hi; exact ⟨(hB.cell 0).trans rfl, (hB.cell 1).trans rfl⟩
      | 1, hi => obtain rfl := Option.some.inj hi; exact ⟨(hB.cell 2).trans rfl, (hB.cell 3).trans rfl⟩
      | i + 2, hi => simp [uC] at hi
    · refine .inr ⟨w.heap.size + 1, 0, rfl, ⟨by omega, by omega⟩, fun i c hi => ?_⟩
      have hB : Blk (w6.setCell ⟨w.heap.size + 1 + 1, 5, none⟩ (.slice A9 s9.length c9)) (w.heap.size + 1) 100 _ := ((k6 _ (by omega) (by omega)).trans (k5 _ (by omega))).trans hbt
      match i, hi with
      | 0, hi => obtain rfl := Option.some.inj hi; exact ⟨(hB.cell 0).trans rfl, (hB.cell 1).trans rfl⟩
      | 1, hi => obtain rfl := Option.some.inj hi; exact ⟨(hB.cell 2).trans rfl, (hB.cell 3).trans rfl⟩
      | 2, hi => obtain rfl := Option.some.inj hi; exact ⟨(hB.cell 4).trans rfl, (hB.cell 5).trans rfl⟩
      | i + 3, hi => simp [tC] at hi
  · intro t hm
    simp only [List.mem_cons, List.not_mem_nil, or_false] at hm
    rcases hm with rfl | rfl
    · refine (r8.kept fun k hk => k6 k hk.2.1 (by have := hk.1; omega)).mono fun k hk => ⟨?_, ?_⟩
      · have := hk.1; omega
      · have := hk.2.1; omega
    · refine (r9.kept fun k hk => Below.heap_setCell w6 ⟨w.heap.size + 1 + 1, 5, none⟩ _ k ?_).mono fun k hk => ⟨?_, ?_⟩
      · have := hk.1; rw [setCell_size'] at this; show k ≠ w.heap.size + 1 + 1; omega
      · have := hk.1; rw [setCell_size'] at this; omega
      · have := hk.2.1; omega
  · simp only [List.map_cons, List.map_nil, TM.key, e8, e9]
    rfl
  · intro t hm
    simp only [List.mem_cons, List.not_mem_nil, or_false] at hm
    rcases hm with rfl | rfl
    · exact Nat.le_refl _
    · exact Nat.le_refl _
  · have h1 : Below w.heap.size w w5 := hw3.trans (hb5'.mono (by omega))
    have h2 := h1.setCell (p := ⟨w.heap.size + 1 + 1, 2, none⟩) (show w.heap.size ≤ w.heap.size + 1 + 1 by omega) (.slice A8 s8.length c8)
    exact (h2.trans (hb6.mono (by omega))).setCell (show w.heap.size ≤ w.heap.size + 1 + 1 by omega) _
end Go.Proofs.YtajnnkapgnmoaaaGreat
/-
  batch.Apply, ahead of its walk: what changes leave, names that are found, tables beside a growing row.
-/
namespace Go.Proofs.YtajnnkapgnmoaaaGreat
open Go.RowKit

theorem compact_sub {α : Type} [Inhabited α] [DecidableEq α] {zs : List α} {x : α} (h : x ∈ Lib.compact zs) : x ∈ zs := by
  unfold Lib.compact Lib.compactUpTo at h
  obtain ⟨j, hj, rfl⟩ := List.mem_map.1 h
  have hlt := List.mem_range.1 (List.mem_filter.1 hj).1
  rw [getElem!_pos _ j (by simpa using hlt), List.getElem_toArray]
  exact List.getElem_mem _
theorem onceN_sub {l : List ByteArray} {x : ByteArray} (h : x ∈ onceN l) : x ∈ l := by
  unfold onceN at h
  obtain ⟨z, hz, rfl⟩ := List.mem_map.1 h
  have := compact_sub hz
  unfold sortN at this
  rw [List.mem_mergeSort] at this
  obtain ⟨y, hy, rfl⟩ := List.mem_map.1 this
  rw [ba_toList]; exact hy
def namesK (ks : List Key) : List ByteArray := ks.map Prod.fst
theorem findK_names (nm : ByteArray) (ks : List Key) : findK nm ks = idx (fun b => b.toList == nm.toList) (namesK ks) 0 := (idx_map (fun b : ByteArray => b.toList == nm.toList) Prod.fst ks 0).symm
theorem oneK_names (ks : List Key) (c : Ch) : namesK (oneK ks c).2 = namesK ks := by
  unfold oneK
  split
  · rfl
  · split
    · rfl
    · rename_i i _ _ t ht
      split
      · unfold namesK
        rw [List.map_set]
        refine List.ext_getElem? fun j => ?_
        rw [List.getElem?_set]
        split
        · rename_i hij
          subst hij
          split
          · rw [List.getElem?_map, ht]; rfl
          · rename_i hl
            rw [List.getElem?_eq_none (by omega)]
        · rfl
      · rfl
theorem oneK_found {ks : List Key} {c : Ch} (h : (oneK ks c).1 = 0) : ∃ i : Nat, findK c.nm ks = (i : Int) ∧ i < ks.length := by
  unfold oneK at h
  split at h
  · simp at h
  · rename_i i hi
    split at h
    · simp at h
    · rename_i t ht
      exact ⟨i, hi, (List.getElem?_eq_some_iff.1 ht).1⟩
theorem runK_names : ∀ (l : List Ch) (n : Nat) (ks : List Key), (runK ks n l).1 = 0 → namesK (runK ks n l).2.2 = namesK ks
  | [], n, ks, _ => rfl
  | c :: l, n, ks, h => by
    unfold runK at h ⊢
    split at h
    · rename_i h1
      rw [if_pos h1, runK_names l (n + 1) _ h, oneK_names]
    · rename_i h1
      exact absurd h h1
theorem runK_found : ∀ (l : List Ch) (n : Nat) (ks : List Key), (runK ks n l).1 = 0 → ∀ c ∈ l, ∃ i : Nat, findK c.nm ks = (i : Int) ∧ i < ks.length
  | [], n, ks, _, c, hc => by simp at hc
  | x :: l, n, ks, h, c, hc => by
    unfold runK at h
    split at h
    · rename_i h1
      rcases List.mem_cons.1 hc with rfl | hc
      · exact oneK_found h1
      · obtain ⟨i, h2, h3⟩ := runK_found l (n + 1) _ h c hc
        rw [findK_names, oneK_names, ← findK_names] at h2
        have : (namesK (oneK ks x).2).length = (namesK ks).length := by rw [oneK_names]
        simp only [namesK, List.length_map] at this
        exact ⟨i, h2, by omega⟩
    · rename_i h1
      exact absurd h h1
/-- tables beside a row that grows -/
theorem Now.grown {o o' : Option Nat} {w0 w w' : World} {g cap m : Nat} {s : List TM} (h : Now o w0 w (.slice (some ⟨g, 0, none⟩) m cap) s) (hne : o ≠ some g) (hgr : w.grownBy w' o) (ho : o' = o ∨ ∃ k, o' = some k ∧ w.heap.size ≤ k) : Now o' w0 w' (.slice (some ⟨g, 0, none⟩) m cap) s := by
  have hk : ∀ k, NewS w0 w k ∧ (Value.slice (some ⟨g, 0, none⟩) m cap).ownBlock ≠ some k ∧ o ≠ some k → w'.heap[k]? = w.heap[k]? := fun k hk => hgr.block k hk.1.2.1 fun e => hk.2.2 e.symm
  have hS : ∀ k, NewS w0 w k ∧ (Value.slice (some ⟨g, 0, none⟩) m cap).ownBlock ≠ some k ∧ o ≠ some k → NewS w0 w' k ∧ (Value.slice (some ⟨g, 0, none⟩) m cap).ownBlock ≠ some k ∧ o' ≠ some k := fun k h =>
    ⟨⟨h.1.1, Nat.lt_of_lt_of_le h.1.2.1 hgr.size, fun x => (frozen_of_block (hk k h)).trans (h.1.2.2 x)⟩, h.2.1, by
      rcases ho with rfl | ⟨j, rfl, hj⟩
      · exact h.2.2
      · intro e
        have := Option.some.inj e
        have := h.1.2.1
        omega⟩
  exact ⟨h.own.kept hgr (.inr fun e => hne e.symm), fun t ht => ((h.cols t ht).kept hk).mono hS, fun t ht => ((h.rows t ht).kept hk).mono hS⟩
theorem Now.of {w0 w : World} {l : List TM} {g cap : Nat} {s : List TM} (h : TabRet w0 l w (.slice (some ⟨g, 0, none⟩) s.length cap) s) : Now none w0 w (.slice (some ⟨g, 0, none⟩) s.length cap) s :=
  ⟨h.own, fun t ht => (h.cols t ht).mono fun k hk => ⟨hk.1, hk.2, by simp⟩, fun t ht => (h.rows t ht).mono fun k hk => ⟨hk.1, hk.2, by simp⟩⟩
theorem results_tmp4 {fn : Func} {t u v x : Tmp} (h : fn.results = #[.tmp t, .tmp u, .tmp v, .tmp x]) (tmps : Array Value) (P : Program) (w : World) :
    (results fn tmps).run P w = .ok (.tuple #[tmps.getD t undef, tmps.getD u undef, tmps.getD v undef, tmps.getD x undef]) w := by
  simp [results, h]
theorem own_lower {w : World} {b b' n z : Nat} {e : TypeId} {v : Value} {xs : List Value} (h : w.ownsRow b e z v n xs) (hb : b' ≤ b) : w.ownsRow b' e z v n xs := by
  refine ⟨h.1, ?_⟩
  rcases h.2 with hn | ⟨g, cap, cur, rfl, hg, r⟩
  · exact .inl hn
  · exact .inr ⟨g, cap, cur, rfl, Nat.le_trans hb hg, r⟩
/-- what Apply gives where nothing is refused -/
structure ApplyRet (w w' : World) (ks : List Key) (ds : List (ByteArray × List It)) (v d : Value) : Prop where
  tabs : ∃ (g cap : Nat) (s : List TM), v = .slice (some ⟨g, 0, none⟩) s.length cap ∧ (w.heap.size ≤ g ∧ g < w'.heap.size) ∧ Now none w w' v s ∧ s.map TM.key = ks
  tells : ∃ (A : Option Addr) (c : Nat) (x : List XM), d = .slice A x.length c ∧ XRow w' (NewS w w') A x ∧ x.map XM.key = ds
theorem deltaK_eq {now old : List Key} {nm : ByteArray} {i : Nat} {a b : Key} (hf : findK nm now = (i : Int)) (ha : now[i]? = some a) (hb : old[i]? = some b) : deltaK now old nm = (nm, sumS a.2.2 (flipS b.2.2)) := by
  unfold deltaK
  rw [hf]
  dsimp only [← Int.ofNat_eq_natCast]
  simp only [ha, hb]
theorem SetOk_of_both {a b s : List It} (ha : SetOk a) (hb : SetOk b) (hs : SetOk s) (h : ∀ q, look s q = look (a ++ flipS b) q) : s = sumS a (flipS b) :=
  sumS_eq hs ha hb.flip fun q => by rw [h, look_append]
end Go.Proofs.YtajnnkapgnmoaaaGreat
/-
  Changes of t and u, as plain lists: what adds and removes leave. No Go in sight.
-/
set_option linter.unusedVariables false
namespace Go.Proofs.YtajnnkapgnmoaaaGreat
open Go.RowKit

def st (a b : List It) : List Key := [(nmU, uC, a), (nmT, tC, b)]
def isN (nm : ByteArray) (c : Ch) : Bool := c.nm.toList == nm.toList
def netsL (nm : ByteArray) (l : List Ch) : List It := (l.filter (isN nm)).map fun c => (c.r, netOf c.rem)
def updS (nm : ByteArray) (l : List Ch) (s : List It) : List It := l.foldl (fun s c => if isN nm c = true then addS s c.r (netOf c.rem) else s) s
def GoodC (c : Ch) : Prop := GoodT c.nm c.r
theorem net_ne (b : Bool) : netOf b ≠ 0 := by unfold netOf; split <;> omega
theorem net_abs (b : Bool) : (netOf b).natAbs = 1 := by unfold netOf; split <;> rfl
theorem updS_both (nm : ByteArray) : ∀ (l : List Ch) {s : List It}, SetOk s → (∀ c ∈ l, GoodC c) → SetOk (updS nm l s) ∧ ∀ q, look (updS nm l s) q = look s q + look (netsL nm l) q
  | [], s, hs, _ => ⟨hs, fun q => by simp [updS, netsL, look]⟩
  | c :: l, s, hs, hg => by
    cases hc : isN nm c with
    | true =>
      obtain ⟨h1, h2⟩ := updS_both nm l (addS_ok hs (good_rowOk (hg c (by simp))) (net_ne c.rem)) fun d hd => hg d (by simp [hd])
      have e : updS nm (c :: l) s = updS nm l (addS s c.r (netOf c.rem)) := by simp [updS, hc]
      have e2 : netsL nm (c :: l) = (c.r, netOf c.rem) :: netsL nm l := by simp [netsL, hc]
      rw [e, e2]
      refine ⟨h1, fun q => ?_⟩
      rw [h2, look_addS]
      simp only [look]
      omega
    | false =>
      obtain ⟨h1, h2⟩ := updS_both nm l hs fun d hd => hg d (by simp [hd])
      have e : updS nm (c :: l) s = updS nm l s := by simp [updS, hc]
      have e2 : netsL nm (c :: l) = netsL nm l := by simp [netsL, hc]
      rw [e, e2]
      exact ⟨h1, h2⟩
theorem netsL_append (nm : ByteArray) (a b : List Ch) : netsL nm (a ++ b) = netsL nm a ++ netsL nm b := by simp [netsL]
theorem netsL_perm (nm : ByteArray) {a b : List Ch} (h : a.Perm b) (q : List V) : look (netsL nm a) q = look (netsL nm b) q := look_perm ((h.filter _).map _) q
theorem vol_nets (nm : ByteArray) (l : List Ch) : vol (netsL nm l) ≤ l.length := by
  induction l with
  | nil => simp [netsL, vol]
  | cons c l ih =>
    have h1 := net_abs c.rem
    cases hc : isN nm c with
    | true =>
      have e2 : netsL nm (c :: l) = (c.r, netOf c.rem) :: netsL nm l := by simp [netsL, hc]
      rw [e2]
      simp only [vol, List.length_cons]
      omega
    | false =>
      have e2 : netsL nm (c :: l) = netsL nm l := by simp [netsL, hc]
      rw [e2]
      simp only [List.length_cons]
      omega
theorem isN_iff {nm : ByteArray} {c : Ch} : isN nm c = true ↔ c.nm = nm := by
  unfold isN
  rw [beq_iff_eq]
  exact ⟨fun h => by rw [← ba_toList c.nm, ← ba_toList nm, h], fun h => by rw [h]⟩
theorem good_cases {c : Ch} (h : GoodC c) : (isN nmU c = true ∧ isN nmT c = false ∧ c.nm = nmU ∧ fitsB uC c.r = true) ∨ (isN nmT c = true ∧ isN nmU c = false ∧ c.nm = nmT ∧ fitsB tC c.r = true) := by
  rcases h with ⟨h1, h2⟩ | ⟨h1, h2⟩
  · refine .inr ⟨isN_iff.2 h1, ?_, h1, h2⟩
    cases hx : isN nmU c with
    | false => rfl
    | true => exact absurd (h1.symm.trans (isN_iff.1 hx)) nmTU
  · refine .inl ⟨isN_iff.2 h1, ?_, h1, h2⟩
    cases hx : isN nmT c with
    | false => rfl
    | true => exact absurd ((isN_iff.1 hx).symm.trans h1) nmTU
theorem findK_U (a b : List It) : findK nmU (st a b) = 0 := by
  have h : Key.isB nmU (nmU, uC, a) = true := by unfold Key.isB; exact beq_self_eq_true _
  simp [findK, idx, st, h]
theorem findK_T (a b : List It) : findK nmT (st a b) = 1 := by
  have h : Key.isB nmT (nmU, uC, a) = false := (by decide +kernel : (nmU.toList == nmT.toList) = false)
  have h2 : Key.isB nmT (nmT, tC, b) = true := by unfold Key.isB; exact beq_self_eq_true _
  simp [findK, idx, st, h, h2]
theorem fullK_no : ∀ (l : List It) (n : Int), n + vol l < 64 → fullK n l = false
  | [], n, _ => rfl
  | x :: l, n, h => by
    unfold fullK
    simp only [vol] at h
    have h1 := vol_nonneg l
    rw [if_neg (by omega)]
    exact fullK_no l _ (by omega)
/-- one change, where it may be -/
theorem oneK_ok {a b : List It} {c : Ch} (hg : GoodC c) (hh : (c.rem = false ∧ vol a < 64 ∧ vol b < 64) ∨ (c.rem = true ∧ (isN nmU c = true → look a c.r ≠ 0) ∧ (isN nmT c = true → look b c.r ≠ 0))) : oneK (st a b) c = (0, st (updS nmU [c] a) (updS nmT [c] b)) := by
  rcases good_cases hg with ⟨h1, h2, h3, h4⟩ | ⟨h1, h2, h3, h4⟩
  · have e1 : updS nmU [c] a = addS a c.r (netOf c.rem) := by simp [updS, h1]
    have e2 : updS nmT [c] b = b := by simp [updS, h2]
    have e3 : hitK (nmU, uC, a) c.r c.rem = 0 := by
      unfold hitK
      dsimp only
      rw [h4]
      rcases hh with ⟨q1, q2, q3⟩ | ⟨q1, q2, q3⟩
      · rw [q1, fullK_no a 0 (by omega)]; rfl
      · rw [q1, if_neg (q2 h1)]; rfl
    unfold oneK
    rw [h3, findK_U]
    show (if hitK (nmU, uC, a) c.r c.rem = 0 then _ else _) = _
    rw [if_pos e3, e1, e2]
    rfl
  · have e1 : updS nmT [c] b = addS b c.r (netOf c.rem) := by simp [updS, h1]
    have e2 : updS nmU [c] a = a := by simp [updS, h2]
    have e3 : hitK (nmT, tC, b) c.r c.rem = 0 := by
      unfold hitK
      dsimp only
      rw [h4]
      rcases hh with ⟨q1, q2, q3⟩ | ⟨q1, q2, q3⟩
      · rw [q1, fullK_no b 0 (by omega)]; rfl
      · rw [q1, if_neg (q3 h1)]; rfl
    unfold oneK
    rw [h3, findK_T]
    show (if hitK (nmT, tC, b) c.r c.rem = 0 then _ else _) = _
    rw [if_pos e3, e1, e2]
    rfl
theorem updS_cons (nm : ByteArray) (c : Ch) (l : List Ch) (s : List It) : updS nm l (updS nm [c] s) = updS nm (c :: l) s := rfl
theorem updS_vol (nm : ByteArray) {c : Ch} {s : List It} (hs : SetOk s) (hg : GoodC c) : vol (updS nm [c] s) ≤ vol s + 1 := by
  cases hc : isN nm c with
  | true =>
    have e1 : updS nm [c] s = addS s c.r (netOf c.rem) := by simp [updS, hc]
    rw [e1]
    have := addS_vol hs (good_rowOk hg) (net_ne c.rem)
    have := net_abs c.rem
    omega
  | false =>
    have e1 : updS nm [c] s = s := by simp [updS, hc]
    rw [e1]
    omega
theorem one_good {c : Ch} (h : GoodC c) : ∀ d ∈ [c], GoodC d := fun d hd => by rw [List.mem_singleton.1 hd]; exact h
theorem run_adds : ∀ (l : List Ch) (n : Nat) {a b : List It}, SetOk a → SetOk b → (∀ c ∈ l, GoodC c ∧ c.rem = false) → vol a + l.length ≤ 63 → vol b + l.length ≤ 63 → runK (st a b) n l = (0, 0, st (updS nmU l a) (updS nmT l b))
  | [], n, a, b, _, _, _, _, _ => rfl
  | c :: l, n, a, b, ha, hb, hg, va, vb => by
    obtain ⟨g1, g2⟩ := hg c (by simp)
    simp only [List.length_cons] at va vb
    have h1 := oneK_ok (a := a) (b := b) g1 (.inl ⟨g2, by omega, by omega⟩)
    have ua := updS_vol nmU ha g1
    have ub := updS_vol nmT hb g1
    unfold runK
    rw [h1, if_pos rfl, run_adds l (n + 1) (updS_both nmU [c] ha (one_good g1)).1 (updS_both nmT [c] hb (one_good g1)).1 (fun d hd => hg d (by simp [hd])) (by omega) (by omega)]
    rfl
theorem look_neg : ∀ (l : List Ch) (nm : ByteArray), (∀ c ∈ l, c.rem = true) → ∀ q, look (netsL nm l) q ≤ 0
  | [], nm, _, q => by simp [netsL, look]
  | c :: l, nm, h, q => by
    have ih := look_neg l nm (fun d hd => h d (by simp [hd])) q
    cases hc : isN nm c with
    | true =>
      have e2 : netsL nm (c :: l) = (c.r, netOf c.rem) :: netsL nm l := by simp [netsL, hc]
      rw [e2]
      simp only [look, h c (by simp), netOf]
      split <;> simp <;> omega
    | false =>
      have e2 : netsL nm (c :: l) = netsL nm l := by simp [netsL, hc]
      rw [e2]; exact ih
theorem run_subs : ∀ (l : List Ch) (n : Nat) {a b : List It}, SetOk a → SetOk b → (∀ c ∈ l, GoodC c ∧ c.rem = true) → (∀ q, 0 ≤ look a q + look (netsL nmU l) q) → (∀ q, 0 ≤ look b q + look (netsL nmT l) q) → runK (st a b) n l = (0, 0, st (updS nmU l a) (updS nmT l b))
  | [], n, a, b, _, _, _, _, _ => rfl
  | c :: l, n, a, b, ha, hb, hg, va, vb => by
    obtain ⟨g1, g2⟩ := hg c (by simp)
    have hneg := fun nm q => look_neg l nm (fun d hd => (hg d (by simp [hd])).2) q
    have hU := updS_both nmU [c] ha (one_good g1)
    have hT := updS_both nmT [c] hb (one_good g1)
    have sp : ∀ nm q, look (netsL nm (c :: l)) q = look (netsL nm [c]) q + look (netsL nm l) q := fun nm q => by
      rw [show c :: l = [c] ++ l from rfl, netsL_append, look_append]
    have h1 := oneK_ok (a := a) (b := b) g1 (.inr ⟨g2, fun hn => by
      have h2 := va c.r
      have h3 := hneg nmU c.r
      have e2 : netsL nmU [c] = [(c.r, netOf c.rem)] := by simp [netsL, hn]
      rw [sp, e2, look_one, if_pos (eqR_self _), g2] at h2
      simp only [netOf] at h2
      simp at h2
      omega, fun hn => by
      have h2 := vb c.r
      have h3 := hneg nmT c.r
      have e2 : netsL nmT [c] = [(c.r, netOf c.rem)] := by simp [netsL, hn]
      rw [sp, e2, look_one, if_pos (eqR_self _), g2] at h2
      simp only [netOf] at h2
      simp at h2
      omega⟩)
    unfold runK
    rw [h1, if_pos rfl, run_subs l (n + 1) hU.1 hT.1 (fun d hd => hg d (by simp [hd])) (fun q => by have := va q; rw [sp] at this; rw [hU.2]; omega) (fun q => by have := vb q; rw [sp] at this; rw [hT.2]; omega)]
    rfl
/-- whatever is not refused leaves the tables so -/
theorem run_any : ∀ (l : List Ch) (n : Nat) {a b : List It}, (∀ c ∈ l, GoodC c) → (runK (st a b) n l).1 = 0 → (runK (st a b) n l).2.2 = st (updS nmU l a) (updS nmT l b)
  | [], n, a, b, _, _ => rfl
  | c :: l, n, a, b, hg, h0 => by
    unfold runK at h0 ⊢
    split at h0
    · rename_i h1
      rw [if_pos h1]
      have g1 := hg c (by simp)
      have e : (oneK (st a b) c).2 = st (updS nmU [c] a) (updS nmT [c] b) := by
        rcases good_cases g1 with ⟨q1, q2, q3, q4⟩ | ⟨q1, q2, q3, q4⟩
        · have e1 : updS nmU [c] a = addS a c.r (netOf c.rem) := by simp [updS, q1]
          have e2 : updS nmT [c] b = b := by simp [updS, q2]
          unfold oneK at h1 ⊢
          rw [q3, findK_U] at h1 ⊢
          have h1' : (if hitK (nmU, uC, a) c.r c.rem = 0 then ((0 : Int), (st a b).set 0 (nmU, uC, addS a c.r (netOf c.rem))) else (hitK (nmU, uC, a) c.r c.rem, st a b)).1 = 0 := h1
          show (if hitK (nmU, uC, a) c.r c.rem = 0 then ((0 : Int), (st a b).set 0 (nmU, uC, addS a c.r (netOf c.rem))) else (hitK (nmU, uC, a) c.r c.rem, st a b)).2 = _
          split at h1'
          · rename_i hh
            rw [if_pos hh, e1, e2]; rfl
          · rename_i hh
            exact absurd h1' hh
        · have e1 : updS nmT [c] b = addS b c.r (netOf c.rem) := by simp [updS, q1]
          have e2 : updS nmU [c] a = a := by simp [updS, q2]
          unfold oneK at h1 ⊢
          rw [q3, findK_T] at h1 ⊢
          have h1' : (if hitK (nmT, tC, b) c.r c.rem = 0 then ((0 : Int), (st a b).set 1 (nmT, tC, addS b c.r (netOf c.rem))) else (hitK (nmT, tC, b) c.r c.rem, st a b)).1 = 0 := h1
          show (if hitK (nmT, tC, b) c.r c.rem = 0 then ((0 : Int), (st a b).set 1 (nmT, tC, addS b c.r (netOf c.rem))) else (hitK (nmT, tC, b) c.r c.rem, st a b)).2 = _
          split at h1'
          · rename_i hh
            rw [if_pos hh, e1, e2]; rfl
          · rename_i hh
            exact absurd h1' hh
      rw [e] at h0 ⊢
      exact run_any l (n + 1) (fun d hd => hg d (by simp [hd])) h0
    · rename_i h1
      exact absurd h0 h1
end Go.Proofs.YtajnnkapgnmoaaaGreat
/-
  The names t and u: sorted, each once; what batch.Apply tells of them. No Go in sight.
-/
set_option linter.unusedVariables false
namespace Go.Proofs.YtajnnkapgnmoaaaGreat
open Go.RowKit

def hasN (nm : ByteArray) (l : List ByteArray) : Bool := l.any fun x => x.toList == nm.toList
theorem nmT_list : nmT.toList = [116] := by decide +kernel
theorem nmU_list : nmU.toList = [117] := by decide +kernel
theorem compact_two {d : Array (List UInt8)} (hv : ∀ j, j < d.size → d[j]! = [116] ∨ d[j]! = [117]) (hs : ∀ i j, i < j → j < d.size → d[i]! ≤ d[j]!) : ∀ m, m ≤ d.size →
    Lib.compactUpTo d m = (if ∃ j, j < m ∧ d[j]! = [116] then [[116]] else []) ++ (if ∃ j, j < m ∧ d[j]! = [117] then [[117]] else [])
  | 0, _ => by
    rw [if_neg (fun ⟨j, h, _⟩ => by omega), if_neg (fun ⟨j, h, _⟩ => by omega)]
    rfl
  | m + 1, hm => by
    have ih := compact_two hv hs m (by omega)
    have ltu : ¬ ([117] : List UInt8) ≤ [116] := by decide
    have ne : ([117] : List UInt8) ≠ [116] := by decide
    rw [Lib.compactUpTo_succ]
    rcases hv m (by omega) with h | h
    · have all : ∀ j, j < m → d[j]! = [116] := fun j hj => by
        rcases hv j (by omega) with h1 | h1
        · exact h1
        · have := hs j m hj (by omega)
          rw [h1, h] at this
          exact absurd this ltu
      have nou : ¬ ∃ j, j < m + 1 ∧ d[j]! = [117] := fun ⟨j, h1, h2⟩ => by
        rcases Nat.lt_or_ge j m with h3 | h3
        · rw [all j h3] at h2; exact ne h2.symm
        · obtain rfl : j = m := by omega
          rw [h] at h2; exact ne h2.symm
      have nou2 : ¬ ∃ j, j < m ∧ d[j]! = [117] := fun ⟨j, h1, h2⟩ => nou ⟨j, by omega, h2⟩
      rw [if_pos (⟨m, by omega, h⟩ : ∃ j, j < m + 1 ∧ d[j]! = [116]), if_neg nou]
      rw [if_neg nou2] at ih
      rcases Nat.eq_zero_or_pos m with h0 | h0
      · subst h0
        rw [ih, if_neg (fun ⟨j, h1, _⟩ => by omega), Lib.keeps_lt_one d 0 (by omega), h]
        rfl
      · rw [ih, if_pos (⟨0, h0, all 0 h0⟩ : ∃ j, j < m ∧ d[j]! = [116]), Lib.keeps_neg h0 (by rw [h, all (m - 1) (by omega)])]
        rfl
    · rw [if_pos (⟨m, by omega, h⟩ : ∃ j, j < m + 1 ∧ d[j]! = [117])]
      have tt : (∃ j, j < m + 1 ∧ d[j]! = [116]) ↔ ∃ j, j < m ∧ d[j]! = [116] := ⟨fun ⟨j, h1, h2⟩ => by
        rcases Nat.lt_or_ge j m with h3 | h3
        · exact ⟨j, h3, h2⟩
        · obtain rfl : j = m := by omega
          rw [h] at h2; exact absurd h2 ne, fun ⟨j, h1, h2⟩ => ⟨j, by omega, h2⟩⟩
      simp only [tt]
      rcases Nat.eq_zero_or_pos m with h0 | h0
      · subst h0
        rw [ih, if_neg (fun ⟨j, h1, _⟩ => by omega), if_neg (fun ⟨j, h1, _⟩ => by omega), Lib.keeps_lt_one d 0 (by omega), h]
        rfl
      · by_cases hl : d[m - 1]! = [117]
        · rw [ih, if_pos (⟨m - 1, by omega, hl⟩ : ∃ j, j < m ∧ d[j]! = [117]), Lib.keeps_neg h0 (by rw [h, hl])]
          simp
        · have nou : ¬ ∃ j, j < m ∧ d[j]! = [117] := fun ⟨j, h1, h2⟩ => by
            rcases Nat.lt_or_ge j (m - 1) with h3 | h3
            · have := hs j (m - 1) h3 (by omega)
              rcases hv (m - 1) (by omega) with h4 | h4
              · rw [h2, h4] at this; exact ltu this
              · exact hl h4
            · obtain rfl : j = m - 1 := by omega
              exact hl h2
          rw [ih, if_neg nou, Lib.keeps_pos (by rw [h]; exact fun e => hl e.symm), h]
          simp
theorem onceN_two {l : List ByteArray} (h : ∀ x ∈ l, x = nmT ∨ x = nmU) : onceN l = (if hasN nmT l = true then [nmT] else []) ++ (if hasN nmU l = true then [nmU] else []) := by
  have hmem : ∀ z, z ∈ sortN l ↔ ∃ x ∈ l, x.toList = z := fun z => by
    unfold sortN
    rw [List.mem_mergeSort, List.mem_map]
  have hsz : (sortN l).toArray.size = (sortN l).length := by simp
  have get : ∀ j, j < (sortN l).length → (sortN l).toArray[j]! ∈ sortN l := fun j hj => by
    rw [getElem!_pos _ j (by simpa using hj), List.getElem_toArray]
    exact List.getElem_mem _
  have hv : ∀ j, j < (sortN l).toArray.size → (sortN l).toArray[j]! = [116] ∨ (sortN l).toArray[j]! = [117] := fun j hj => by
    obtain ⟨x, hx, e⟩ := (hmem _).1 (get j (by simpa using hj))
    rw [← e]
    rcases h x hx with rfl | rfl
    · exact .inl nmT_list
    · exact .inr nmU_list
  have hs : ∀ i j, i < j → j < (sortN l).toArray.size → (sortN l).toArray[i]! ≤ (sortN l).toArray[j]! := fun i j hij hj => by
    have hj' : j < (sortN l).length := by simpa using hj
    have hp : (sortN l).Pairwise fun x y => decide (x ≤ y) = true := by
      unfold sortN
      refine List.pairwise_mergeSort (fun a b c h1 h2 => ?_) (fun a b => ?_) _
      · rw [decide_eq_true_eq] at h1 h2 ⊢
        exact List.le_trans h1 h2
      · rw [Bool.or_eq_true, decide_eq_true_eq, decide_eq_true_eq]
        exact List.le_total a b
    have := List.pairwise_iff_getElem.1 hp i j (by omega) hj' hij
    rw [getElem!_pos _ i (by simp; omega), getElem!_pos _ j hj, List.getElem_toArray, List.getElem_toArray]
    exact of_decide_eq_true this
  have hc := compact_two hv hs (sortN l).length (by simp)
  have hT : (∃ j, j < (sortN l).length ∧ (sortN l).toArray[j]! = [116]) ↔ hasN nmT l = true := by
    unfold hasN
    rw [List.any_eq_true]
    constructor
    · rintro ⟨j, h1, h2⟩
      obtain ⟨x, hx, e⟩ := (hmem _).1 (get j h1)
      exact ⟨x, hx, by rw [beq_iff_eq, e, h2, nmT_list]⟩
    · rintro ⟨x, hx, e⟩
      rw [beq_iff_eq, nmT_list] at e
      obtain ⟨j, h1, h2⟩ := List.mem_iff_getElem.1 ((hmem _).2 ⟨x, hx, e⟩)
      exact ⟨j, h1, by rw [getElem!_pos _ j (by simpa using h1), List.getElem_toArray, h2]⟩
  have hU : (∃ j, j < (sortN l).length ∧ (sortN l).toArray[j]! = [117]) ↔ hasN nmU l = true := by
    unfold hasN
    rw [List.any_eq_true]
    constructor
    · rintro ⟨j, h1, h2⟩
      obtain ⟨x, hx, e⟩ := (hmem _).1 (get j h1)
      exact ⟨x, hx, by rw [beq_iff_eq, e, h2, nmU_list]⟩
    · rintro ⟨x, hx, e⟩
      rw [beq_iff_eq, nmU_list] at e
      obtain ⟨j, h1, h2⟩ := List.mem_iff_getElem.1 ((hmem _).2 ⟨x, hx, e⟩)
      exact ⟨j, h1, by rw [getElem!_pos _ j (by simpa using h1), List.getElem_toArray, h2]⟩
  unfold onceN Lib.compact
  rw [hc]
  simp only [hT, hU]
  cases hasN nmT l <;> cases hasN nmU l <;> simp [nmT, nmU]
theorem hasN_names {nm : ByteArray} {l : List Ch} : hasN nm (l.map Ch.nm) = true ↔ ∃ c ∈ l, isN nm c = true := by
  unfold hasN
  rw [List.any_eq_true]
  constructor
  · rintro ⟨x, hx, e⟩
    obtain ⟨c, hc, rfl⟩ := List.mem_map.1 hx
    exact ⟨c, hc, e⟩
  · rintro ⟨c, hc, e⟩
    exact ⟨c.nm, List.mem_map.2 ⟨c, hc, rfl⟩, e⟩
theorem updS_none {nm : ByteArray} : ∀ {l : List Ch} {s : List It}, (¬ ∃ c ∈ l, isN nm c = true) → updS nm l s = s
  | [], s, _ => rfl
  | c :: l, s, h => by
    have hc : isN nm c = false := by
      cases hx : isN nm c with
      | false => rfl
      | true => exact absurd ⟨c, by simp, hx⟩ h
    have e : updS nm (c :: l) s = updS nm l s := by simp [updS, hc]
    rw [e, updS_none fun ⟨d, hd, h2⟩ => h ⟨d, by simp [hd], h2⟩]
theorem deltaK_U (a b a' b' : List It) : deltaK (st a' b') (st a b) nmU = (nmU, sumS a' (flipS a)) := by
  unfold deltaK
  rw [findK_U]
  rfl
theorem deltaK_T (a b a' b' : List It) : deltaK (st a' b') (st a b) nmT = (nmT, sumS b' (flipS b)) := by
  unfold deltaK
  rw [findK_T]
  rfl
/-- what is told of changes of t and u -/
def tellK (a b a' b' : List It) (l : List Ch) : List (ByteArray × List It) :=
  (if hasN nmT (l.map Ch.nm) = true then [(nmT, sumS b' (flipS b))] else []) ++ (if hasN nmU (l.map Ch.nm) = true then [(nmU, sumS a' (flipS a))] else [])
theorem good_names {l : List Ch} (h : ∀ c ∈ l, GoodC c) : ∀ x ∈ l.map Ch.nm, x = nmT ∨ x = nmU := fun x hx => by
  obtain ⟨c, hc, rfl⟩ := List.mem_map.1 hx
  rcases h c hc with ⟨e, _⟩ | ⟨e, _⟩
  · exact .inl e
  · exact .inr e
theorem tell_eq {a b a' b' : List It} {l : List Ch} (h : ∀ c ∈ l, GoodC c) : (onceN (l.map Ch.nm)).map (deltaK (st a' b') (st a b)) = tellK a b a' b' l := by
  rw [onceN_two (good_names h), List.map_append]
  unfold tellK
  congr 1
  · split
    · simp [deltaK_T]
    · rfl
  · split
    · simp [deltaK_U]
    · rfl
theorem runK_at : ∀ (l : List Ch) (n : Nat) (ks : List Key), (runK ks n l).1 ≠ 0 → n ≤ (runK ks n l).2.1 ∧ (runK ks n l).2.1 < n + l.length
  | [], n, ks, h => absurd rfl h
  | c :: l, n, ks, h => by
    unfold runK at h ⊢
    split at h
    · rename_i h1
      rw [if_pos h1]
      have := runK_at l (n + 1) _ h
      simp only [List.length_cons]
      omega
    · rename_i h1
      rw [if_neg h1]
      simp only [List.length_cons]
      omega
/-- changes of t and u, at most eight -/
theorem apply_good {a b : List It} {l : List Ch} (hl : l.length ≤ 8) (hg : ∀ c ∈ l, GoodC c) (hk : KeysOk 200 (st a b)) :
    ((applyK (st a b) l).1 ≠ 0 ∧ ((applyK (st a b) l).2.1 < l.length ∨ (l.length = 0 ∧ (applyK (st a b) l).2.1 = 0))) ∨
    (applyK (st a b) l = (0, 0, st (updS nmU l a) (updS nmT l b), tellK a b (updS nmU l a) (updS nmT l b) l) ∧ 0 < l.length ∧ KeysOk 208 (st (updS nmU l a) (updS nmT l b))) := by
  unfold applyK
  rw [if_neg (by omega)]
  by_cases h0 : l.length = 0
  · rw [if_pos h0]
    exact .inl ⟨by show (1 : Int) ≠ 0; omega, .inr ⟨h0, rfl⟩⟩
  · rw [if_neg h0]
    by_cases h1 : (runK (st a b) 0 l).1 = 0
    · have h2 := (runK_ok l 0 hk h1).more (b' := 208) (by omega)
      rw [run_any l 0 hg h1] at h2
      rw [if_pos h1, run_any l 0 hg h1, tell_eq hg]
      exact .inr ⟨rfl, by omega, h2⟩
    · rw [if_neg h1]
      have := runK_at l 0 _ h1
      exact .inl ⟨h1, .inl (show (runK (st a b) 0 l).2.1 < l.length by omega)⟩
theorem apply_adds {a b : List It} {l : List Ch} (hl : l.length ≤ 8) (h0 : 0 < l.length) (ha : SetOk a) (hb : SetOk b) (va : vol a ≤ 50) (vb : vol b ≤ 50) (hg : ∀ c ∈ l, GoodC c ∧ c.rem = false) :
    applyK (st a b) l = (0, 0, st (updS nmU l a) (updS nmT l b), tellK a b (updS nmU l a) (updS nmT l b) l) := by
  unfold applyK
  rw [if_neg (by omega), if_neg (by omega), run_adds l 0 ha hb hg (by omega) (by omega), if_pos rfl, tell_eq fun c hc => (hg c hc).1]
theorem apply_subs {a b : List It} {l : List Ch} (hl : l.length ≤ 8) (h0 : 0 < l.length) (ha : SetOk a) (hb : SetOk b) (hg : ∀ c ∈ l, GoodC c ∧ c.rem = true) (va : ∀ q, 0 ≤ look a q + look (netsL nmU l) q) (vb : ∀ q, 0 ≤ look b q + look (netsL nmT l) q) :
    applyK (st a b) l = (0, 0, st (updS nmU l a) (updS nmT l b), tellK a b (updS nmU l a) (updS nmT l b) l) := by
  unfold applyK
  rw [if_neg (by omega), if_neg (by omega), run_subs l 0 ha hb hg va vb, if_pos rfl, tell_eq fun c hc => (hg c hc).1]
end Go.Proofs.YtajnnkapgnmoaaaGreat
/-
  BatchTells, ahead of its walks: what the reference's Apply keeps. No Go in sight.
-/
set_option linter.unusedVariables false
namespace Go.Proofs.YtajnnkapgnmoaaaGreat
open Go.RowKit

theorem fullK_vol : ∀ (l : List It) (n : Int), n < 64 → (∀ x ∈ l, 0 ≤ x.2) → fullK n l = decide (64 ≤ n + vol l)
  | [], n, hn, _ => by
    show false = _
    exact (decide_eq_false (by simp only [vol]; omega)).symm
  | x :: l, n, hn, h => by
    have hx := h x (by simp)
    have hv := vol_nonneg l
    unfold fullK
    simp only [vol]
    by_cases h1 : 64 ≤ n + x.2
    · rw [if_pos h1]
      exact (decide_eq_true (by omega)).symm
    · rw [if_neg h1, fullK_vol l _ (by omega) fun y hy => h y (by simp [hy])]
      have e : n + x.2 + vol l = n + ((x.2.natAbs : Int) + vol l) := by omega
      rw [e]
      rfl
/-- the names t and u, as far as they were named -/
def nmsOf (t u : Bool) : List ByteArray := (if t = true then [nmT] else []) ++ (if u = true then [nmU] else [])
theorem findK_some {a b : List It} {nm : ByteArray} {i : Nat} (h : findK nm (st a b) = (i : Int)) : (i = 0 ∧ nm = nmU) ∨ (i = 1 ∧ nm = nmT) := by
  unfold findK st at h
  simp only [idx] at h
  split at h
  · rename_i h1
    left
    refine ⟨by omega, ?_⟩
    unfold Key.isB at h1
    rw [beq_iff_eq] at h1
    rw [← ba_toList nm, ← ba_toList nmU]
    exact congrArg _ (congrArg _ h1.symm)
  · split at h
    · rename_i h1
      right
      refine ⟨by omega, ?_⟩
      unfold Key.isB at h1
      rw [beq_iff_eq] at h1
      rw [← ba_toList nm, ← ba_toList nmT]
      exact congrArg _ (congrArg _ h1.symm)
    · omega
theorem run_names {a b : List It} {l : List Ch} {n : Nat} (h : (runK (st a b) n l).1 = 0) : ∀ x ∈ l.map Ch.nm, x = nmT ∨ x = nmU := fun x hx => by
  obtain ⟨c, hc, rfl⟩ := List.mem_map.1 hx
  obtain ⟨i, hi, _⟩ := runK_found l n _ h c hc
  rcases findK_some hi with h | h
  · exact .inr h.2
  · exact .inl h.2
theorem tell_names {a b a' b' : List It} {l : List Ch} (h : ∀ x ∈ l.map Ch.nm, x = nmT ∨ x = nmU) : (onceN (l.map Ch.nm)).map (deltaK (st a' b') (st a b)) = (nmsOf (hasN nmT (l.map Ch.nm)) (hasN nmU (l.map Ch.nm))).map (deltaK (st a' b') (st a b)) := by
  rw [onceN_two h]
  rfl
theorem hasN_snoc (nm x : ByteArray) (l : List ByteArray) : hasN nm (l ++ [x]) = (hasN nm l || (x.toList == nm.toList)) := by
  unfold hasN
  rw [List.any_append]
  simp
theorem nmTU' : (nmT.toList == nmU.toList) = false ∧ (nmU.toList == nmT.toList) = false := by decide +kernel
theorem nms_snoc {nm : ByteArray} (h : nm = nmT ∨ nm = nmU) (l : List ByteArray) : nmsOf (hasN nmT (l ++ [nm])) (hasN nmU (l ++ [nm])) = nmsOf (hasN nmT l || (nm.toList == nmT.toList)) (hasN nmU l || (nm.toList == nmU.toList)) := by
  rw [hasN_snoc, hasN_snoc]
/-- one change, at the table that it names -/
theorem oneK_at {a b : List It} {c : Ch} {i : Nat} {t : Key} (hi : findK c.nm (st a b) = (i : Int)) (ht : (st a b)[i]? = some t) : oneK (st a b) c = if hitK t c.r c.rem = 0 then (0, (st a b).set i (t.1, t.2.1, addS t.2.2 c.r (netOf c.rem))) else (hitK t c.r c.rem, st a b) := by
  unfold oneK
  rw [hi]
  dsimp only [← Int.ofNat_eq_natCast]
  simp only [ht]
theorem oneK_no {a b : List It} {c : Ch} (hi : findK c.nm (st a b) = -1) : oneK (st a b) c = (20, st a b) := by
  unfold oneK
  rw [hi]
  rfl
end Go.Proofs.YtajnnkapgnmoaaaGreat
