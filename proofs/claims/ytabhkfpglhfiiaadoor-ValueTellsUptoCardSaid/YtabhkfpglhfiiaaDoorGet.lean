/-
  Values and rows, read.
-/
import Derived.Test.YtabhkfpglhfiiaaDoorReader5
import Derived.Test.YtabhkfpglhfiiaaDoorValue
import Derived.Test.YtabhkfpglhfiiaaDoorPut
import Derived.Laws.Rows
namespace Go.Proofs.YtabhkfpglhfiiaaDoor
open Go.RowKit
/-- of what was there, only block g has turned -/
structure Only (g : Nat) (w w' : World) : Prop where
  os : w'.os = w.os
  tape : w'.tape = w.tape
  output : w'.output = w.output
  size : w.heap.size ≤ w'.heap.size
  block : ∀ k, k < w.heap.size → k ≠ g → w'.heap[k]? = w.heap[k]?
theorem Only.refl (g : Nat) (w : World) : Only g w w := ⟨rfl, rfl, rfl, Nat.le_refl _, fun _ _ _ => rfl⟩
theorem Only.trans {g : Nat} {a b c : World} (h : Only g a b) (k : Only g b c) : Only g a c :=
  ⟨k.os.trans h.os, k.tape.trans h.tape, k.output.trans h.output, Nat.le_trans h.size k.size, fun i hi hg => (k.block i (Nat.lt_of_lt_of_le hi h.size) hg).trans (h.block i hi hg)⟩
theorem Out.only {g : Nat} {w w' : World} (h : Out (fun k => k = g) w w') : Only g w w' := ⟨h.os, h.tape, h.output, h.size, fun k _ hk => h.block k hk⟩
theorem only_of_below {g : Nat} {w w' : World} (h : Below w.heap.size w w') : Only g w w' := ⟨h.os, h.tape, h.output, h.size, fun k hk _ => h.block k hk⟩
theorem Only.cell {g : Nat} {w w' : World} (h : Only g w w') {p : Addr} (h1 : p.block < w.heap.size) (h2 : p.block ≠ g) : w'.cell? p = w.cell? p := World.cell?_of_block (w := w) (h.block p.block h1 h2)
theorem Only.below {g B : Nat} {w w' : World} (h : Only g w w') (hB : B ≤ w.heap.size) (hg : B ≤ g) : Below B w w' := ⟨h.os, h.tape, h.output, h.size, fun k hk => h.block k (by omega) (by omega)⟩
theorem ByR.below {w w' : World} {S : Nat → Prop} {v : Value} {l : List UInt8} (h : ByR w S v l) (hw : Below w.heap.size w w') : ByR w' S v l := by
  rcases h with h | ⟨b, o, c, rfl, h0, h1, h2, h3⟩
  · exact .inl h
  · exact .inr ⟨b, o, c, rfl, h0, by have := hw.size; omega, h2, h3.below hw h1⟩
theorem Rd.lt {w : World} {S : Nat → Prop} {g : Nat} {R : RS} (h : Rd w S g R) : g < w.heap.size := by
  obtain ⟨_, _, _, v, hg, _⟩ := h
  exact lt_of_block hg
theorem Rd.kept {w w' : World} {S : Nat → Prop} {g : Nat} {R : RS} (h : Rd w S g R) (hw : Below w.heap.size w w') : Rd w' S g R := by
  obtain ⟨h1, h2, h3, v, hg, hv⟩ := h
  exact ⟨h1, h2, h3, v, (hw.block g (lt_of_block hg)).trans hg, hv.below hw⟩

theorem Rd.setOther {w : World} {S : Nat → Prop} {g : Nat} {R : RS} (h : Rd w S g R) {p : Addr} (hp : S p.block) (hne : g ≠ p.block) (u : Value) : Rd (w.setCell p u) S g R := by
  obtain ⟨h1, h2, h3, v, hg, hv⟩ := h
  exact ⟨h1, h2, h3, v, (Below.heap_setCell w p u g hne).trans hg, hv.out ((Out.refl S w).setCell hp u)⟩
theorem Only.setNew {g : Nat} {w w' : World} (h : Only g w w') {p : Addr} (hp : w.heap.size ≤ p.block) (u : Value) : Only g w (w'.setCell p u) :=
  ⟨h.os, h.tape, h.output, by simp [World.setCell]; exact h.size, fun k hk hne => (Below.heap_setCell w' p u k (by omega)).trans (h.block k hk hne)⟩
theorem cell3 {w : World} {g : Nat} {a b c : Value} {t : TypeId} (h : w.heap[g]? = some (.cells #[a, b, c] t (0, 0))) :
    (w.cell? ⟨g, 0, none⟩ = some a ∧ w.cell? ⟨g, 1, none⟩ = some b ∧ w.cell? ⟨g, 2, none⟩ = some c) ∧ w.frozen? ⟨g, 0, none⟩ = false ∧ w.frozen? ⟨g, 1, none⟩ = false ∧ w.frozen? ⟨g, 2, none⟩ = false := by
  simp [World.cell?, World.frozen?, h]
theorem set3c {w : World} {g k : Nat} {a b c u : Value} {t : TypeId} (h : w.heap[g]? = some (.cells #[a, b, c] t (0, 0))) : (w.setCell ⟨g, k, none⟩ u).heap[g]? = some (.cells (#[a, b, c].set! k u) t (0, 0)) := by
  show (w.heap.modify g _)[g]? = _
  rw [Array.getElem?_modify]
  simp [h]
/-- a value stored into a box of the call's own -/
def put3 (w : World) (p : Nat) (x0 x1 x2 : Value) : World := ((w.setCell ⟨p, 0, none⟩ x0).setCell ⟨p, 1, none⟩ x1).setCell ⟨p, 2, none⟩ x2
theorem put3_block {w : World} {p : Nat} {a b c x0 x1 x2 : Value} {t : TypeId} (h : w.heap[p]? = some (.cells #[a, b, c] t (0, 0))) : (put3 w p x0 x1 x2).heap[p]? = some (.cells #[x0, x1, x2] t (0, 0)) :=
  set3c (k := 2) (set3c (k := 1) (set3c (k := 0) h))
theorem put3_rd {w : World} {S : Nat → Prop} {g p : Nat} {R : RS} {x0 x1 x2 : Value} (h : Rd w S g R) (hp : S p) (hne : g ≠ p) : Rd (put3 w p x0 x1 x2) S g R :=
  ((h.setOther (p := ⟨p, 0, none⟩) hp hne x0).setOther (p := ⟨p, 1, none⟩) hp hne x1).setOther (p := ⟨p, 2, none⟩) hp hne x2
theorem put3_only {w w' : World} {g p : Nat} {x0 x1 x2 : Value} (h : Only g w w') (hp : w.heap.size ≤ p) : Only g w (put3 w' p x0 x1 x2) :=
  ((h.setNew (p := ⟨p, 0, none⟩) hp x0).setNew (p := ⟨p, 1, none⟩) hp x1).setNew (p := ⟨p, 2, none⟩) hp x2
theorem get_results {tmps : Array Value} {p : Nat} {x0 x1 x2 : Value} {w : World} (hp : tmps.getD 2 undef = .pointer (some ⟨p, 0, none⟩)) (hg : w.heap[p]? = some (.cells #[x0, x1, x2] 24 (0, 0))) :
    (results Tryd.f12 tmps).run Tryd.prog w = .ok (.agg #[x0, x1, x2]) w :=
  results_cell_row (P := Tryd.prog) (p := 2) (ty := 24) rfl tmps w p _ _ _ _ hp hg Tryd.underlying24 rfl (by show _ = some 3; kernel_rfl)

theorem Only.grown {g : Nat} {w a w1 : World} {row : Option Nat} (h : Only g w a) (hg : a.grownBy w1 row) (hr : ∀ k, row = some k → w.heap.size ≤ k) : Only g w w1 :=
  ⟨hg.os.trans h.os, hg.tape.trans h.tape, hg.output.trans h.output, Nat.le_trans h.size hg.size, fun k hk hne => (hg.block k (Nat.lt_of_lt_of_le hk h.size) (fun e => by have := hr k e.symm; omega)).trans (h.block k hk hne)⟩
theorem own_only {w w' : World} {g B n : Nat} {e : TypeId} {z : Nat} {v : Value} {xs : List Value} (h : w.ownsRow B e z v n xs) (ho : Only g w w') (hB : g < B) : w'.ownsRow B e z v n xs := by
  rcases h with ⟨h1, h2⟩
  refine ⟨h1, ?_⟩
  rcases h2 with h2 | ⟨q, cap, cur, rfl, h3, h4, h5⟩
  · exact .inl h2
  · exact .inr ⟨q, cap, cur, rfl, h3, (ho.block q (lt_of_block h4) (by omega)).trans h4, h5⟩

theorem takeL_refused (R : RS) (n : Nat) (h : ((R.take n).why == 0) = false) : R.takeL n = [] := by
  unfold RS.take at h
  unfold RS.takeL
  by_cases h0 : (R.why == 0) = true
  · rw [if_pos h0] at h ⊢
    by_cases h1 : R.l.length - R.at_ < n
    · rw [if_pos h1]
    · rw [if_neg h1] at h
      simp only at h
      rw [h0] at h
      cases h
  · rw [if_neg h0]
def V.zero : V := ⟨0, 0, ⟨#[]⟩⟩
def RS.getV (R : RS) : V :=
  if R.get 1 = 1 then (if ((R.take 1).take 8).why != 0 then V.zero else ⟨1, i64 ((R.take 1).get 8), ⟨#[]⟩⟩)
  else if R.get 1 = 2 then (if ((R.take 1).text 40).why != 0 then V.zero else ⟨2, 0, (R.take 1).textS 40⟩)
  else V.zero
def RS.getR (R : RS) : RS := if R.get 1 = 1 then (R.take 1).take 8 else if R.get 1 = 2 then (R.take 1).text 40 else (R.take 1).refuse 12 (R.take 1).at_

set_option maxRecDepth 100000 in
theorem value_get (S : Nat → Prop) (g : Nat) (R : RS) (w : World) (hS : ∀ k, w.heap.size ≤ k → S k) (hR : Rd w S g R) :
    Calls Tryd.prog 12 #[.pointer (some ⟨g, 0, none⟩)] w fun e w' => e = .returned R.getV.val ∧ Rd w' S g R.getR ∧ Only g w w' := by
  have hg := hR.lt
  have ha : Below w.heap.size w (w.alloc (.cells #[.int .i64 0, .int .i64 0, .string ⟨#[]⟩] 24)) := (Below.refl _ _).alloc (Nat.le_refl _) _
  have hp := Lib.hid (rByte S g R _ (hR.kept ha))
  have HA := Lib.hid (only_of_below (g := g) ha)
  have HS := Lib.hid hS
  have hnew : (w.alloc (.cells #[.int .i64 0, .int .i64 0, .string ⟨#[]⟩] 24)).heap[w.heap.size]? = some (.cells #[.int .i64 0, .int .i64 0, .string ⟨#[]⟩] 24) := heap_alloc_new w _
  have Hn := Lib.hid hnew
  have hV : Hid (R.getV = if R.get 1 = 1 then (if ((R.take 1).take 8).why != 0 then V.zero else ⟨1, i64 ((R.take 1).get 8), ⟨#[]⟩⟩)
    else if R.get 1 = 2 then (if ((R.take 1).text 40).why != 0 then V.zero else ⟨2, 0, (R.take 1).textS 40⟩) else V.zero) := Lib.hid rfl
  have hQ : Hid (R.getR = if R.get 1 = 1 then (R.take 1).take 8 else if R.get 1 = 2 then (R.take 1).text 40 else (R.take 1).refuse 12 (R.take 1).at_) := Lib.hid rfl
  generalize R.getV = V0 at *
  generalize R.getR = Q0 at *
  generalize R.get 1 = k at *
  generalize R.take 1 = R1 at *
  clear ha hR hS hnew
  go_enter Tryd.func12, Tryd.ntmps12
  go_wp2_with fail
  refine hp.out.mono ?_
  rintro e w1 ⟨rfl, h1, h2⟩
  have hs1 := h2.size
  simp at hs1
  have H1 := Lib.hid h1
  have hO1 := HA.out.trans h2.only
  have HO1 := Lib.hid hO1
  have hb : w1.heap[w.heap.size]? = some (.cells #[.int .i64 0, .int .i64 0, .string ⟨#[]⟩] 24) := (h2.block _ (by omega)).trans Hn.out
  have Hb := Lib.hid hb
  have ha1 : Below w1.heap.size w1 (w1.alloc (.cells #[.int .i64 k, .int .i64 0, .string ⟨#[]⟩] 24)) := (Below.refl _ _).alloc (Nat.le_refl _) _
  have HA1 := Lib.hid ha1
  clear h1 h2 hp hO1 Hn hb ha1 HA
  by_cases hk1 : k = 1
  · subst hk1
    have hl := Lib.hid (rLong S g R1 _ (H1.out.kept HA1.out))
    go_wp2_with fail
    refine hl.out.mono ?_
    rintro e w2 ⟨rfl, h3, h4⟩
    have hO2 := Lib.hid (HO1.out.trans ((only_of_below HA1.out).trans h4.only))
    have hb2 : w2.heap[w.heap.size]? = some (.cells #[.int .i64 0, .int .i64 0, .string ⟨#[]⟩] 24) := (h4.block _ (by omega)).trans ((HA1.out.block _ (by omega)).trans Hb.out)
    have hq2 : w2.heap[w1.heap.size]? = some (.cells #[.int .i64 ((1 : Nat) : Int), .int .i64 0, .string ⟨#[]⟩] 24) := (h4.block _ (by omega)).trans (heap_alloc_new w1 _)
    obtain ⟨⟨b0, b1, b2⟩, fb0, fb1, fb2⟩ := cell3 hb2
    obtain ⟨⟨q0, q1, q2⟩, fq0, fq1, fq2⟩ := cell3 hq2
    have hne1 : w.heap.size ≠ w1.heap.size := by omega
    have hne2 : w1.heap.size ≠ w.heap.size := by omega
    have hx := h3.setOther (p := ⟨w1.heap.size, 1, none⟩) (HS.out _ (by show w.heap.size ≤ w1.heap.size; omega)) (by show g ≠ w1.heap.size; omega) (.int .i64 (i64 (R1.get 8)))
    have hr := Lib.hid (rRefused S g _ _ hx)
    have HX := Lib.hid hx
    have hbx : (w2.setCell ⟨w1.heap.size, 1, none⟩ (.int .i64 (i64 (R1.get 8)))).heap[w.heap.size]? = _ := (Below.heap_setCell w2 ⟨w1.heap.size, 1, none⟩ (.int .i64 (i64 (R1.get 8))) w.heap.size hne1).trans hb2
    have HBX := Lib.hid hbx
    have HOX := Lib.hid (hO2.out.setNew (p := ⟨w1.heap.size, 1, none⟩) (by show w.heap.size ≤ w1.heap.size; omega) (.int .i64 (i64 (R1.get 8))))
    have hSw : Hid (S w.heap.size) := Lib.hid (HS.out _ (Nat.le_refl _))
    clear h3 h4 hl hb2 hq2 H1 HO1 Hb HA1 hx hbx hO2 HS
    generalize i64 (R1.get 8) = N at *
    generalize R1.take 8 = Q at *
    by_cases hwhy : (Q.why != 0) = true
    · obtain rfl : V0 = V.zero := by rw [hV.out]; simp [hwhy]
      obtain rfl : Q0 = Q := by rw [hQ.out]; simp
      clear hV hQ
      go_wp2_with fail
      refine hr.out.mono ?_
      rintro e w3 ⟨rfl, rfl⟩
      go_wp2_with fail
      refine bodyPost_ret (get_results rfl (put3_block HBX.out)) rfl ?_
      exact ⟨rfl, put3_rd HX.out hSw.out (by omega), put3_only HOX.out (Nat.le_refl _)⟩
    · have hwhy' : (Q.why != 0) = false := by simpa using hwhy
      obtain rfl : V0 = ⟨1, N, ⟨#[]⟩⟩ := by rw [hV.out]; simp [hwhy']
      obtain rfl : Q0 = Q := by rw [hQ.out]; simp
      clear hV hQ hwhy
      go_wp2_with fail
      refine hr.out.mono ?_
      rintro e w3 ⟨rfl, rfl⟩
      go_wp2_with fail
      refine bodyPost_ret (get_results rfl (put3_block HBX.out)) rfl ?_
      exact ⟨rfl, put3_rd HX.out hSw.out (by omega), put3_only HOX.out (Nat.le_refl _)⟩
  · by_cases hk2 : k = 2
    · subst hk2
      have hl := Lib.hid (rText S g R1 _ (H1.out.kept HA1.out))
      go_wp2_with fail
      refine hl.out.mono ?_
      rintro e w2 ⟨rfl, h3, h4⟩
      have hO2 := Lib.hid (HO1.out.trans ((only_of_below HA1.out).trans h4.only))
      have hb2 : w2.heap[w.heap.size]? = some (.cells #[.int .i64 0, .int .i64 0, .string ⟨#[]⟩] 24) := (h4.block _ (by omega)).trans ((HA1.out.block _ (by omega)).trans Hb.out)
      have hq2 : w2.heap[w1.heap.size]? = some (.cells #[.int .i64 ((2 : Nat) : Int), .int .i64 0, .string ⟨#[]⟩] 24) := (h4.block _ (by omega)).trans (heap_alloc_new w1 _)
      obtain ⟨⟨b0, b1, b2⟩, fb0, fb1, fb2⟩ := cell3 hb2
      obtain ⟨⟨q0, q1, q2⟩, fq0, fq1, fq2⟩ := cell3 hq2
      have hne1 : w.heap.size ≠ w1.heap.size := by omega
      have hne2 : w1.heap.size ≠ w.heap.size := by omega
      have hx := h3.setOther (p := ⟨w1.heap.size, 2, none⟩) (HS.out _ (by show w.heap.size ≤ w1.heap.size; omega)) (by show g ≠ w1.heap.size; omega) (.string (R1.textS 40))
      have hr := Lib.hid (rRefused S g _ _ hx)
      have HX := Lib.hid hx
      have hbx : (w2.setCell ⟨w1.heap.size, 2, none⟩ (.string (R1.textS 40))).heap[w.heap.size]? = _ := (Below.heap_setCell w2 ⟨w1.heap.size, 2, none⟩ (.string (R1.textS 40)) w.heap.size hne1).trans hb2
      have HBX := Lib.hid hbx
      have HOX := Lib.hid (hO2.out.setNew (p := ⟨w1.heap.size, 2, none⟩) (by show w.heap.size ≤ w1.heap.size; omega) (.string (R1.textS 40)))
      have hSw : Hid (S w.heap.size) := Lib.hid (HS.out _ (Nat.le_refl _))
      clear h3 h4 hl hb2 hq2 H1 HO1 Hb HA1 hx hbx hO2 HS
      generalize R1.textS 40 = N at *
      generalize R1.text 40 = Q at *
      by_cases hwhy : (Q.why != 0) = true
      · obtain rfl : V0 = V.zero := by rw [hV.out]; simp [hwhy]
        obtain rfl : Q0 = Q := by rw [hQ.out]; simp
        clear hV hQ
        go_wp2_with fail
        refine hr.out.mono ?_
        rintro e w3 ⟨rfl, rfl⟩
        go_wp2_with fail
        refine bodyPost_ret (get_results rfl (put3_block HBX.out)) rfl ?_
        exact ⟨rfl, put3_rd HX.out hSw.out (by omega), put3_only HOX.out (Nat.le_refl _)⟩
      · have hwhy' : (Q.why != 0) = false := by simpa using hwhy
        obtain rfl : V0 = ⟨2, 0, N⟩ := by rw [hV.out]; simp [hwhy']
        obtain rfl : Q0 = Q := by rw [hQ.out]; simp
        clear hV hQ hwhy
        go_wp2_with fail
        refine hr.out.mono ?_
        rintro e w3 ⟨rfl, rfl⟩
        go_wp2_with fail
        refine bodyPost_ret (get_results rfl (put3_block HBX.out)) rfl ?_
        exact ⟨rfl, put3_rd HX.out hSw.out (by omega), put3_only HOX.out (Nat.le_refl _)⟩
    · have hq1 : ((k : Int) == 1) = false := by simp; omega
      have hq2 : ((k : Int) == 2) = false := by simp; omega
      have hl := Lib.hid (rFail S g R1 12 (by decide) _ (H1.out.kept HA1.out))
      go_wp2_with fail
      refine hl.out.mono ?_
      rintro e w2 ⟨rfl, h3, h4⟩
      have hO2 := Lib.hid (HO1.out.trans ((only_of_below HA1.out).trans h4.only))
      have hb2 : w2.heap[w.heap.size]? = some (.cells #[.int .i64 0, .int .i64 0, .string ⟨#[]⟩] 24) := (h4.block _ (by omega)).trans ((HA1.out.block _ (by omega)).trans Hb.out)
      obtain ⟨⟨b0, b1, b2⟩, fb0, fb1, fb2⟩ := cell3 hb2
      have HX := Lib.hid h3
      have HBX := Lib.hid hb2
      have hSw : Hid (S w.heap.size) := Lib.hid (HS.out _ (Nat.le_refl _))
      obtain rfl : V0 = V.zero := by rw [hV.out, if_neg hk1, if_neg hk2]
      obtain rfl : Q0 = R1.refuse 12 R1.at_ := by rw [hQ.out, if_neg hk1, if_neg hk2]
      clear h3 h4 hl hb2 H1 HO1 Hb HA1 HS hV hQ
      go_wp2_with fail
      refine bodyPost_ret (get_results rfl (put3_block HBX.out)) rfl ?_
      exact ⟨rfl, put3_rd HX.out hSw.out (by omega), put3_only hO2.out (Nat.le_refl _)⟩
end Go.Proofs.YtabhkfpglhfiiaaDoor
