/-
  Package expr's contracts: operate.
-/
import Derived.Test.YtldleckgkgeclaaDoorMb2
import Derived.Test.YtldleckgkgeclaaDoorMb0
import Derived.Deep.AppendLies
import Derived.KernelRfl
set_option linter.unusedVariables false
set_option linter.unusedSimpArgs false
namespace Go.Proofs.YtldleckgkgeclaaDoor
open Go.RowKit
@[go_sem] theorem guard_value_ (op : BinOp) (x y : Operand) (xs ys : Array Value) (w : World) : (eqGuard op 60 x y (.agg xs) (.agg ys)).run Tryd.prog w = .ok () w := run_eqGuard_agg w op _ x y xs ys (by kernel_rfl)
theorem eql_value_ (xk xn yk yn : Int) (xs ys : ByteArray) (w : World) :
    (binOp .eql 60 (.agg #[.int .i64 xk, .int .i64 xn, .string xs]) (.agg #[.int .i64 yk, .int .i64 yn, .string ys])).run Tryd.prog w = .ok (.bool (xk == yk && (xn == yn && xs.toList == ys.toList))) w := by
  have hS : Tryd.prog.underlying 60 = some (.struct (Tryd.prog.fieldsOf 60)) := by kernel_rfl
  have hp : Tryd.prog.stoodInHeld 60 = false := by kernel_rfl
  have u1 := Tryd.underlying3
  have u2 := Tryd.underlying2
  have u3 := Tryd.underlying9
  rw [run_eql_struct, show (10000 : Nat) = 9999 + 1 from rfl, run_equalIn_agg w 9999 _ _ _ hS hp]
  simp only [Program.fieldsOf, Tryd.underlying60]
  go_simp
  by_cases h1 : xk = yk <;> by_cases h2 : xn = yn <;> by_cases h3 : xs.toList = ys.toList <;> simp [h1, h2, h3]
theorem set3c {w : World} {g k : Nat} {a b c u : Value} {t : TypeId} (h : w.heap[g]? = some (.cells #[a, b, c] t (0, 0))) : (w.setCell ⟨g, k, none⟩ u).heap[g]? = some (.cells (#[a, b, c].set! k u) t (0, 0)) := by
  show (w.heap.modify g _)[g]? = _
  rw [Array.getElem?_modify]
  simp [h]
/-- a value stored into a box of the call's own -/
def put3 (w : World) (p : Nat) (x0 x1 x2 : Value) : World := ((w.setCell ⟨p, 0, none⟩ x0).setCell ⟨p, 1, none⟩ x1).setCell ⟨p, 2, none⟩ x2
theorem put3_block {w : World} {p : Nat} {a b c x0 x1 x2 : Value} {t : TypeId} (h : w.heap[p]? = some (.cells #[a, b, c] t (0, 0))) : (put3 w p x0 x1 x2).heap[p]? = some (.cells #[x0, x1, x2] t (0, 0)) :=
  set3c (k := 2) (set3c (k := 1) (set3c (k := 0) h))
theorem put3_below {w a : World} {p B : Nat} {x0 x1 x2 : Value} (h : Below B a w) (hp : B ≤ p) : Below B a (put3 w p x0 x1 x2) :=
  ((h.setCell (p := ⟨p, 0, none⟩) hp x0).setCell (p := ⟨p, 1, none⟩) hp x1).setCell (p := ⟨p, 2, none⟩) hp x2
theorem cell3 {w : World} {g : Nat} {a b c : Value} {t : TypeId} (h : w.heap[g]? = some (.cells #[a, b, c] t (0, 0))) :
    (w.cell? ⟨g, 0, none⟩ = some a ∧ w.cell? ⟨g, 1, none⟩ = some b ∧ w.cell? ⟨g, 2, none⟩ = some c) ∧ w.frozen? ⟨g, 0, none⟩ = false ∧ w.frozen? ⟨g, 1, none⟩ = false ∧ w.frozen? ⟨g, 2, none⟩ = false := by
  simp [World.cell?, World.frozen?, h]
/-- a value in a cell, and a number: what is returned -/
theorem results_two {fn : Func} {p q : Tmp} (h : fn.results = #[.cell p 60, .tmp q]) {tmps : Array Value} {w : World} {g : Nat} {x0 x1 x2 u : Value} {t : TypeId}
    (hp : tmps.getD p undef = .pointer (some ⟨g, 0, none⟩)) (hq : tmps.getD q undef = u) (hg : w.heap[g]? = some (.cells #[x0, x1, x2] t (0, 0))) : (results fn tmps).run Tryd.prog w = .ok (.tuple #[.agg #[x0, x1, x2], u]) w := by
  have hp' : tmps[p]?.getD undef = .pointer (some ⟨g, 0, none⟩) := by simpa using hp
  have hq' : tmps[q]?.getD undef = u := by simpa using hq
  have hl := run_loadVar_row (P := Tryd.prog) w g t 60 #[x0, x1, x2] (0, 0) _ hg Tryd.underlying60 rfl (by show _ = some 3; kernel_rfl)
  simp [results, h, hp', hq', asAddr, hl]

set_option maxRecDepth 100000 in
set_option maxHeartbeats 2000000 in
theorem operate_1 (b o c : Nat) (op : ByteArray) (xk xn : Int) (xs : ByteArray) (hx1 : -9223372036854775808 ≤ xn) (hx2 : xn ≤ 9223372036854775807) (hop : op.toList = opNot ∨ op.toList = opLen ∨ op.toList = opNeg) (hxs : xs.size ≤ 1048576) (w : World) (hb : b < w.heap.size)
    (c0 : w.cell? ⟨b, o, none⟩ = some (.int .i64 xk)) (c1 : w.cell? ⟨b, o + 1, none⟩ = some (.int .i64 xn)) (c2 : w.cell? ⟨b, o + 2, none⟩ = some (.string xs)) :
    Calls Tryd.prog 66 #[.string op, .slice (some ⟨b, o, none⟩) 1 c] w fun e w' =>
      e = .returned (.tuple #[.agg #[.int .i64 (operateL op.toList ⟨xk, xn, xs⟩ ⟨xk, xn, xs⟩).1.k, .int .i64 (operateL op.toList ⟨xk, xn, xs⟩ ⟨xk, xn, xs⟩).1.n, .string (operateL op.toList ⟨xk, xn, xs⟩ ⟨xk, xn, xs⟩).1.s], .int .i64 (operateL op.toList ⟨xk, xn, xs⟩ ⟨xk, xn, xs⟩).2]) ∧ Below w.heap.size w w' := by
  have hx0 : (0 : Int) < 1 := by omega
  have hxl : (0 : Int) < 1 := by omega
  have hnl : ((1 : Nat) : Int) - 1 = 0 := by omega
  obtain ⟨w3, ew3⟩ : ∃ w3, w3 = ((w.alloc (.cells #[.int .i64 0, .int .i64 0, .string ⟨#[]⟩] 60)).alloc (.cells #[.int .i64 xk, .int .i64 xn, .string xs] 60)).alloc (.cells #[.int .i64 xk, .int .i64 xn, .string xs] 60) := ⟨_, rfl⟩
  have HB3 : Hid (Below w.heap.size w w3) := Lib.hid (by rw [ew3]; exact (((Below.refl _ _).alloc (Nat.le_refl _) _).alloc (by simp) _).alloc (by simp; omega) _)
  have hws : w3.heap.size = w.heap.size + 3 := by rw [ew3]; simp
  have hB : Hid (w3.heap[w.heap.size]? = some (.cells #[.int .i64 0, .int .i64 0, .string ⟨#[]⟩] 60 (0, 0))) := Lib.hid (by
    rw [ew3, Below.heap_alloc _ _ _ (by simp; omega), Below.heap_alloc _ _ _ (by simp)]
    exact heap_alloc_new w _)
  have HW3 := Lib.hid ew3
  obtain ⟨V0, hV⟩ : ∃ V0, V0 = operateL op.toList ⟨xk, xn, xs⟩ ⟨xk, xn, xs⟩ := ⟨_, rfl⟩
  have HV := Lib.hid hV
  rw [← hV]
  clear hV ew3
  rcases hop with hop | hop | hop
  · have HV2 : Hid (V0 = (truthV (xn == 0), 0)) := Lib.hid (by rw [HV.out]; unfold operateL; simp [hop, opEq, opLt, opAnd, opOr, opNot, opLen, opCat, opNeg]; try rfl)
    clear HV
    simp only [opNot] at hop
    have ht := Lib.hid (truth_any (xn == 0) w3)
    go_enter Tryd.func66, Tryd.ntmps66
    go_wp2_with fail
    rw [← HW3.out]
    refine (ht.out).mono ?_
    rintro e w4 ⟨rfl, hb4⟩
    have hs4 := hb4.size
    have HB4 : Hid (w4.heap[w.heap.size]? = some (.cells #[.int .i64 0, .int .i64 0, .string ⟨#[]⟩] 60 (0, 0))) := Lib.hid ((hb4.block _ (by omega)).trans hB.out)
    have HBW := Lib.hid (HB3.out.trans (hb4.mono (by omega)))
    obtain ⟨⟨k0, k1, k2⟩, f0, f1, f2⟩ := cell3 HB4.out
    clear hb4 ht
    go_wp2_with fail
    refine bodyPost_ret (results_two rfl rfl rfl (put3_block HB4.out)) rfl ?_
    exact ⟨by rw [HV2.out]; rfl, put3_below HBW.out (Nat.le_refl _)⟩
  · have HV2 : Hid (V0 = (numV xs.size, 0)) := Lib.hid (by rw [HV.out]; unfold operateL; simp [hop, opEq, opLt, opAnd, opOr, opNot, opLen, opCat, opNeg]; try rfl)
    clear HV
    simp only [opLen] at hop
    have ht := Lib.hid (value_num xs.size w3)
    go_enter Tryd.func66, Tryd.ntmps66
    go_wp2_with fail
    rw [← HW3.out]
    refine (ht.out).mono ?_
    rintro e w4 ⟨rfl, hw4⟩
    have hb4 : Below w3.heap.size w3 w4 := by rw [← hw4]; exact (Below.refl _ _).alloc (Nat.le_refl _) _
    clear hw4
    have hs4 := hb4.size
    have HB4 : Hid (w4.heap[w.heap.size]? = some (.cells #[.int .i64 0, .int .i64 0, .string ⟨#[]⟩] 60 (0, 0))) := Lib.hid ((hb4.block _ (by omega)).trans hB.out)
    have HBW := Lib.hid (HB3.out.trans (hb4.mono (by omega)))
    obtain ⟨⟨k0, k1, k2⟩, f0, f1, f2⟩ := cell3 HB4.out
    clear hb4 ht
    go_wp2_with fail
    refine bodyPost_ret (results_two rfl rfl rfl (put3_block HB4.out)) rfl ?_
    exact ⟨by rw [HV2.out]; rfl, put3_below HBW.out (Nat.le_refl _)⟩
  · have hr := Lib.hid (reckon_any op xn xn hx1 hx2 hx1 hx2 w3)
    have HV2 : Hid (V0 = if (reckonL op.toList xn xn).2 then (numV (reckonL op.toList xn xn).1, 0) else (zeroV, 26)) := Lib.hid (by rw [HV.out]; unfold operateL; simp [hop, opEq, opLt, opAnd, opOr, opNot, opLen, opCat, opNeg])
    generalize reckonL op.toList xn xn = rr at *
    obtain ⟨rn, rb⟩ := rr
    simp only at hr HV2
    clear HV 
    simp only [opNeg] at hop
    cases rb
    · have HV3 : Hid (V0 = (zeroV, 26)) := Lib.hid (by rw [HV2.out]; rfl)
      clear HV2
      go_enter Tryd.func66, Tryd.ntmps66
      go_wp2_with fail
      rw [← HW3.out]
      refine (hr.out).mono ?_
      rintro e w4 ⟨rfl, rfl⟩
      obtain ⟨⟨k0, k1, k2⟩, f0, f1, f2⟩ := cell3 hB.out
      go_wp2_with fail
      refine bodyPost_ret (results_two rfl rfl rfl (put3_block hB.out)) rfl ?_
      exact ⟨by rw [HV3.out]; rfl, put3_below HB3.out (Nat.le_refl _)⟩
    · have HV3 : Hid (V0 = (numV rn, 0)) := Lib.hid (by rw [HV2.out]; rfl)
      have ht := Lib.hid (value_num rn w3)
      clear HV2
      go_enter Tryd.func66, Tryd.ntmps66
      go_wp2_with fail
      rw [← HW3.out]
      refine (hr.out).mono ?_
      rintro e w5 ⟨rfl, rfl⟩
      go_wp2_with fail
      refine (ht.out).mono ?_
      rintro e w4 ⟨rfl, hw4⟩
      have hb4 : Below w3.heap.size w3 w4 := by rw [← hw4]; exact (Below.refl _ _).alloc (Nat.le_refl _) _
      clear hw4
      have hs4 := hb4.size
      have HB4 : Hid (w4.heap[w.heap.size]? = some (.cells #[.int .i64 0, .int .i64 0, .string ⟨#[]⟩] 60 (0, 0))) := Lib.hid ((hb4.block _ (by omega)).trans hB.out)
      have HBW := Lib.hid (HB3.out.trans (hb4.mono (by omega)))
      obtain ⟨⟨k0, k1, k2⟩, f0, f1, f2⟩ := cell3 HB4.out
      clear hb4 ht
      go_wp2_with fail
      refine bodyPost_ret (results_two rfl rfl rfl (put3_block HB4.out)) rfl ?_
      exact ⟨by rw [HV3.out]; rfl, put3_below HBW.out (Nat.le_refl _)⟩

set_option maxRecDepth 100000 in
set_option maxHeartbeats 2000000 in
theorem operate_2 (b o c : Nat) (op : ByteArray) (xk xn : Int) (xs : ByteArray) (yk yn : Int) (ys : ByteArray) (hx1 : -9223372036854775808 ≤ xn) (hx2 : xn ≤ 9223372036854775807) (hxs : xs.size ≤ 1048576) (hy1 : -9223372036854775808 ≤ yn) (hy2 : yn ≤ 9223372036854775807) (hys : ys.size ≤ 1048576) (w : World) (hb : b < w.heap.size)
    (c0 : w.cell? ⟨b, o, none⟩ = some (.int .i64 xk)) (c1 : w.cell? ⟨b, o + 1, none⟩ = some (.int .i64 xn)) (c2 : w.cell? ⟨b, o + 2, none⟩ = some (.string xs))
    (d0 : w.cell? ⟨b, o + 3, none⟩ = some (.int .i64 yk)) (d1 : w.cell? ⟨b, o + 3 + 1, none⟩ = some (.int .i64 yn)) (d2 : w.cell? ⟨b, o + 3 + 2, none⟩ = some (.string ys)) :
    Calls Tryd.prog 66 #[.string op, .slice (some ⟨b, o, none⟩) 2 c] w fun e w' =>
      e = .returned (.tuple #[.agg #[.int .i64 (operateL op.toList ⟨xk, xn, xs⟩ ⟨yk, yn, ys⟩).1.k, .int .i64 (operateL op.toList ⟨xk, xn, xs⟩ ⟨yk, yn, ys⟩).1.n, .string (operateL op.toList ⟨xk, xn, xs⟩ ⟨yk, yn, ys⟩).1.s], .int .i64 (operateL op.toList ⟨xk, xn, xs⟩ ⟨yk, yn, ys⟩).2]) ∧ Below w.heap.size w w' := by
  have hx0 : (0 : Int) < 2 := by omega
  have hxl : (1 : Int) < 2 := by omega
  have hnl : ((2 : Nat) : Int) - 1 = 1 := by omega
  obtain ⟨w3, ew3⟩ : ∃ w3, w3 = ((w.alloc (.cells #[.int .i64 0, .int .i64 0, .string ⟨#[]⟩] 60)).alloc (.cells #[.int .i64 xk, .int .i64 xn, .string xs] 60)).alloc (.cells #[.int .i64 yk, .int .i64 yn, .string ys] 60) := ⟨_, rfl⟩
  have HB3 : Hid (Below w.heap.size w w3) := Lib.hid (by rw [ew3]; exact (((Below.refl _ _).alloc (Nat.le_refl _) _).alloc (by simp) _).alloc (by simp; omega) _)
  have hws : w3.heap.size = w.heap.size + 3 := by rw [ew3]; simp
  have hB : Hid (w3.heap[w.heap.size]? = some (.cells #[.int .i64 0, .int .i64 0, .string ⟨#[]⟩] 60 (0, 0))) := Lib.hid (by
    rw [ew3, Below.heap_alloc _ _ _ (by simp; omega), Below.heap_alloc _ _ _ (by simp)]
    exact heap_alloc_new w _)
  have HW3 := Lib.hid ew3
  obtain ⟨V0, hV⟩ : ∃ V0, V0 = operateL op.toList ⟨xk, xn, xs⟩ ⟨yk, yn, ys⟩ := ⟨_, rfl⟩
  have HV := Lib.hid hV
  rw [← hV]
  clear hV ew3
  by_cases q0 : op.toList = opEq
  · have HV2 : Hid (V0 = (truthV (V.eqv ⟨xk, xn, xs⟩ ⟨yk, yn, ys⟩), 0)) := Lib.hid (by rw [HV.out]; unfold operateL; rw [if_pos q0]; try rfl)
    have hq : Hid (V.eqv ⟨xk, xn, xs⟩ ⟨yk, yn, ys⟩ = (xk == yk && (xn == yn && xs.toList == ys.toList))) := Lib.hid rfl
    generalize V.eqv ⟨xk, xn, xs⟩ ⟨yk, yn, ys⟩ = qq at *
    clear HV 
    simp only [opEq] at q0
    have ht := Lib.hid (truth_any qq w3)
    have heq : ∀ w, (binOp .eql 60 (.agg #[.int .i64 xk, .int .i64 xn, .string xs]) (.agg #[.int .i64 yk, .int .i64 yn, .string ys])).run Tryd.prog w = .ok (.bool qq) w := fun w => by rw [eql_value_, ← hq.out]
    clear hq
    go_enter Tryd.func66, Tryd.ntmps66
    go_wp2_with fail
    rw [← HW3.out]
    refine (ht.out).mono ?_
    rintro e w4 ⟨rfl, hb4⟩
    have hs4 := hb4.size
    have HB4 : Hid (w4.heap[w.heap.size]? = some (.cells #[.int .i64 0, .int .i64 0, .string ⟨#[]⟩] 60 (0, 0))) := Lib.hid ((hb4.block _ (by omega)).trans hB.out)
    have HBW := Lib.hid (HB3.out.trans (hb4.mono (by omega)))
    obtain ⟨⟨k0, k1, k2⟩, f0, f1, f2⟩ := cell3 HB4.out
    clear hb4 ht
    go_wp2_with fail
    refine bodyPost_ret (results_two rfl rfl rfl (put3_block HB4.out)) rfl ?_
    exact ⟨by rw [HV2.out]; rfl, put3_below HBW.out (Nat.le_refl _)⟩
  have e0 : (op.toList == [101, 113]) = false := by simpa [opEq] using q0
  by_cases q1 : op.toList = opLt
  · have HV2 : Hid (V0 = (truthV (V.lt ⟨xk, xn, xs⟩ ⟨yk, yn, ys⟩), 0)) := Lib.hid (by rw [HV.out]; unfold operateL; rw [if_neg q0]; rw [if_pos q1]; try rfl)
    have hq := Lib.hid (value_less xk xn xs yk yn ys w3)
    generalize V.lt ⟨xk, xn, xs⟩ ⟨yk, yn, ys⟩ = qq at *
    clear HV q0
    simp only [opLt] at q1
    go_enter Tryd.func66, Tryd.ntmps66
    go_wp2_with fail
    rw [← HW3.out]
    refine (hq.out).mono ?_
    rintro e w5 ⟨rfl, hb5⟩
    have hs5 := hb5.size
    have HB5 := Lib.hid hb5
    clear hb5 hq
    go_wp2_with fail
    refine (truth_any qq _).mono ?_
    rintro e w4 ⟨rfl, hb4x⟩
    have hb4 := HB5.out.trans (hb4x.mono hs5)
    have hs4 := hb4.size
    have HB4 : Hid (w4.heap[w.heap.size]? = some (.cells #[.int .i64 0, .int .i64 0, .string ⟨#[]⟩] 60 (0, 0))) := Lib.hid ((hb4.block _ (by omega)).trans hB.out)
    have HBW := Lib.hid (HB3.out.trans (hb4.mono (by omega)))
    obtain ⟨⟨k0, k1, k2⟩, f0, f1, f2⟩ := cell3 HB4.out
    clear hb4 hb4x
    go_wp2_with fail
    refine bodyPost_ret (results_two rfl rfl rfl (put3_block HB4.out)) rfl ?_
    exact ⟨by rw [HV2.out]; rfl, put3_below HBW.out (Nat.le_refl _)⟩
  have e1 : (op.toList == [108, 116]) = false := by simpa [opLt] using q1
  by_cases q2 : op.toList = opAnd
  · have HV2 : Hid (V0 = (truthV (xn != 0 && yn != 0), 0)) := Lib.hid (by rw [HV.out]; unfold operateL; rw [if_neg q0]; rw [if_neg q1]; rw [if_pos q2]; try rfl)
    clear HV q0 q1
    simp only [opAnd] at q2
    cases hz : (xn != 0)
    · have HV3 : Hid (V0 = (truthV false, 0)) := Lib.hid (by rw [HV2.out, hz]; rfl)
      have ht := Lib.hid (truth_any false w3)
      clear HV2
      go_enter Tryd.func66, Tryd.ntmps66
      go_wp2_with fail
      rw [← HW3.out]
      refine (ht.out).mono ?_
      rintro e w4 ⟨rfl, hb4⟩
      have hs4 := hb4.size
      have HB4 : Hid (w4.heap[w.heap.size]? = some (.cells #[.int .i64 0, .int .i64 0, .string ⟨#[]⟩] 60 (0, 0))) := Lib.hid ((hb4.block _ (by omega)).trans hB.out)
      have HBW := Lib.hid (HB3.out.trans (hb4.mono (by omega)))
      obtain ⟨⟨k0, k1, k2⟩, f0, f1, f2⟩ := cell3 HB4.out
      clear hb4 ht
      go_wp2_with fail
      refine bodyPost_ret (results_two rfl rfl rfl (put3_block HB4.out)) rfl ?_
      exact ⟨by rw [HV3.out]; rfl, put3_below HBW.out (Nat.le_refl _)⟩
    · have HV3 : Hid (V0 = (truthV (yn != 0), 0)) := Lib.hid (by rw [HV2.out, hz]; rfl)
      have ht := Lib.hid (truth_any (yn != 0) w3)
      clear HV2
      go_enter Tryd.func66, Tryd.ntmps66
      go_wp2_with fail
      rw [← HW3.out]
      refine (ht.out).mono ?_
      rintro e w4 ⟨rfl, hb4⟩
      have hs4 := hb4.size
      have HB4 : Hid (w4.heap[w.heap.size]? = some (.cells #[.int .i64 0, .int .i64 0, .string ⟨#[]⟩] 60 (0, 0))) := Lib.hid ((hb4.block _ (by omega)).trans hB.out)
      have HBW := Lib.hid (HB3.out.trans (hb4.mono (by omega)))
      obtain ⟨⟨k0, k1, k2⟩, f0, f1, f2⟩ := cell3 HB4.out
      clear hb4 ht
      go_wp2_with fail
      refine bodyPost_ret (results_two rfl rfl rfl (put3_block HB4.out)) rfl ?_
      exact ⟨by rw [HV3.out]; rfl, put3_below HBW.out (Nat.le_refl _)⟩
  have e2 : (op.toList == [97, 110, 100]) = false := by simpa [opAnd] using q2
  by_cases q3 : op.toList = opOr
  · have HV2 : Hid (V0 = (truthV (xn != 0 || yn != 0), 0)) := Lib.hid (by rw [HV.out]; unfold operateL; rw [if_neg q0]; rw [if_neg q1]; rw [if_neg q2]; rw [if_pos q3]; try rfl)
    clear HV q0 q1 q2
    simp only [opOr] at q3
    cases hz : (xn != 0)
    · have HV3 : Hid (V0 = (truthV (yn != 0), 0)) := Lib.hid (by rw [HV2.out, hz]; rfl)
      have ht := Lib.hid (truth_any (yn != 0) w3)
      clear HV2
      go_enter Tryd.func66, Tryd.ntmps66
      go_wp2_with fail
      rw [← HW3.out]
      refine (ht.out).mono ?_
      rintro e w4 ⟨rfl, hb4⟩
      have hs4 := hb4.size
      have HB4 : Hid (w4.heap[w.heap.size]? = some (.cells #[.int .i64 0, .int .i64 0, .string ⟨#[]⟩] 60 (0, 0))) := Lib.hid ((hb4.block _ (by omega)).trans hB.out)
      have HBW := Lib.hid (HB3.out.trans (hb4.mono (by omega)))
      obtain ⟨⟨k0, k1, k2⟩, f0, f1, f2⟩ := cell3 HB4.out
      clear hb4 ht
      go_wp2_with fail
      refine bodyPost_ret (results_two rfl rfl rfl (put3_block HB4.out)) rfl ?_
      exact ⟨by rw [HV3.out]; rfl, put3_below HBW.out (Nat.le_refl _)⟩
    · have HV3 : Hid (V0 = (truthV true, 0)) := Lib.hid (by rw [HV2.out, hz]; rfl)
      have ht := Lib.hid (truth_any true w3)
      clear HV2
      go_enter Tryd.func66, Tryd.ntmps66
      go_wp2_with fail
      rw [← HW3.out]
      refine (ht.out).mono ?_
      rintro e w4 ⟨rfl, hb4⟩
      have hs4 := hb4.size
      have HB4 : Hid (w4.heap[w.heap.size]? = some (.cells #[.int .i64 0, .int .i64 0, .string ⟨#[]⟩] 60 (0, 0))) := Lib.hid ((hb4.block _ (by omega)).trans hB.out)
      have HBW := Lib.hid (HB3.out.trans (hb4.mono (by omega)))
      obtain ⟨⟨k0, k1, k2⟩, f0, f1, f2⟩ := cell3 HB4.out
      clear hb4 ht
      go_wp2_with fail
      refine bodyPost_ret (results_two rfl rfl rfl (put3_block HB4.out)) rfl ?_
      exact ⟨by rw [HV3.out]; rfl, put3_below HBW.out (Nat.le_refl _)⟩
  have e3 : (op.toList == [111, 114]) = false := by simpa [opOr] using q3
  by_cases q4 : op.toList = opNot
  · have HV2 : Hid (V0 = (truthV (xn == 0), 0)) := Lib.hid (by rw [HV.out]; unfold operateL; rw [if_neg q0]; rw [if_neg q1]; rw [if_neg q2]; rw [if_neg q3]; rw [if_pos q4]; try rfl)
    clear HV q0 q1 q2 q3
    simp only [opNot] at q4
    have ht := Lib.hid (truth_any (xn == 0) w3)
    go_enter Tryd.func66, Tryd.ntmps66
    go_wp2_with fail
    rw [← HW3.out]
    refine (ht.out).mono ?_
    rintro e w4 ⟨rfl, hb4⟩
    have hs4 := hb4.size
    have HB4 : Hid (w4.heap[w.heap.size]? = some (.cells #[.int .i64 0, .int .i64 0, .string ⟨#[]⟩] 60 (0, 0))) := Lib.hid ((hb4.block _ (by omega)).trans hB.out)
    have HBW := Lib.hid (HB3.out.trans (hb4.mono (by omega)))
    obtain ⟨⟨k0, k1, k2⟩, f0, f1, f2⟩ := cell3 HB4.out
    clear hb4 ht
    go_wp2_with fail
    refine bodyPost_ret (results_two rfl rfl rfl (put3_block HB4.out)) rfl ?_
    exact ⟨by rw [HV2.out]; rfl, put3_below HBW.out (Nat.le_refl _)⟩
  have e4 : (op.toList == [110, 111, 116]) = false := by simpa [opNot] using q4
  by_cases q5 : op.toList = opLen
  · have HV2 : Hid (V0 = (numV xs.size, 0)) := Lib.hid (by rw [HV.out]; unfold operateL; rw [if_neg q0]; rw [if_neg q1]; rw [if_neg q2]; rw [if_neg q3]; rw [if_neg q4]; rw [if_pos q5]; try rfl)
    clear HV q0 q1 q2 q3 q4
    simp only [opLen] at q5
    have ht := Lib.hid (value_num xs.size w3)
    go_enter Tryd.func66, Tryd.ntmps66
    go_wp2_with fail
    rw [← HW3.out]
    refine (ht.out).mono ?_
    rintro e w4 ⟨rfl, hw4⟩
    have hb4 : Below w3.heap.size w3 w4 := by rw [← hw4]; exact (Below.refl _ _).alloc (Nat.le_refl _) _
    clear hw4
    have hs4 := hb4.size
    have HB4 : Hid (w4.heap[w.heap.size]? = some (.cells #[.int .i64 0, .int .i64 0, .string ⟨#[]⟩] 60 (0, 0))) := Lib.hid ((hb4.block _ (by omega)).trans hB.out)
    have HBW := Lib.hid (HB3.out.trans (hb4.mono (by omega)))
    obtain ⟨⟨k0, k1, k2⟩, f0, f1, f2⟩ := cell3 HB4.out
    clear hb4 ht
    go_wp2_with fail
    refine bodyPost_ret (results_two rfl rfl rfl (put3_block HB4.out)) rfl ?_
    exact ⟨by rw [HV2.out]; rfl, put3_below HBW.out (Nat.le_refl _)⟩
  have e5 : (op.toList == [108, 101, 110]) = false := by simpa [opLen] using q5
  by_cases q6 : op.toList = opCat
  · by_cases hbig : 40 < xs.size + ys.size
    · have HV2 : Hid (V0 = (zeroV, 3)) := Lib.hid (by rw [HV.out]; unfold operateL; rw [if_neg q0]; rw [if_neg q1]; rw [if_neg q2]; rw [if_neg q3]; rw [if_neg q4]; rw [if_neg q5]; rw [if_pos q6]; rw [if_pos hbig])
      clear HV q0 q1 q2 q3 q4 q5
      simp only [opCat] at q6
      have hbig' : (40 : Int) < (xs.size : Int) + (ys.size : Int) := by omega
      go_enter Tryd.func66, Tryd.ntmps66
      go_wp2_with fail
      rw [← HW3.out]
      go_wp2_with fail
      refine bodyPost_ret (results_two rfl rfl rfl hB.out) rfl ?_
      exact ⟨by rw [HV2.out]; rfl, HB3.out⟩
    · have HV2 : Hid (V0 = (strV (xs ++ ys), 0)) := Lib.hid (by rw [HV.out]; unfold operateL; rw [if_neg q0]; rw [if_neg q1]; rw [if_neg q2]; rw [if_neg q3]; rw [if_neg q4]; rw [if_neg q5]; rw [if_pos q6]; rw [if_neg hbig])
      clear HV q0 q1 q2 q3 q4 q5
      simp only [opCat] at q6
      have hbig' : ¬ (40 : Int) < (xs.size : Int) + (ys.size : Int) := by omega
      have ht := Lib.hid (value_str (xs ++ ys) w3)
      go_enter Tryd.func66, Tryd.ntmps66
      go_wp2_with fail
      rw [← HW3.out]
      refine (ht.out).mono ?_
      rintro e w4 ⟨rfl, hw4⟩
      have hb4 : Below w3.heap.size w3 w4 := by rw [← hw4]; exact (Below.refl _ _).alloc (Nat.le_refl _) _
      clear hw4
      have hs4 := hb4.size
      have HB4 : Hid (w4.heap[w.heap.size]? = some (.cells #[.int .i64 0, .int .i64 0, .string ⟨#[]⟩] 60 (0, 0))) := Lib.hid ((hb4.block _ (by omega)).trans hB.out)
      have HBW := Lib.hid (HB3.out.trans (hb4.mono (by omega)))
      obtain ⟨⟨k0, k1, k2⟩, f0, f1, f2⟩ := cell3 HB4.out
      clear hb4 ht
      go_wp2_with fail
      refine bodyPost_ret (results_two rfl rfl rfl (put3_block HB4.out)) rfl ?_
      exact ⟨by rw [HV2.out]; rfl, put3_below HBW.out (Nat.le_refl _)⟩
  have e6 : (op.toList == [99, 97, 116]) = false := by simpa [opCat] using q6
  have hr := Lib.hid (reckon_any op xn yn hx1 hx2 hy1 hy2 w3)
  have HV2 : Hid (V0 = if (reckonL op.toList xn yn).2 then (numV (reckonL op.toList xn yn).1, 0) else (zeroV, 26)) := Lib.hid (by rw [HV.out]; unfold operateL; rw [if_neg q0]; rw [if_neg q1]; rw [if_neg q2]; rw [if_neg q3]; rw [if_neg q4]; rw [if_neg q5]; rw [if_neg q6])
  generalize reckonL op.toList xn yn = rr at *
  obtain ⟨rn, rb⟩ := rr
  simp only at hr HV2
  clear HV q0 q1 q2 q3 q4 q5 q6
  cases rb
  · have HV3 : Hid (V0 = (zeroV, 26)) := Lib.hid (by rw [HV2.out]; rfl)
    clear HV2
    go_enter Tryd.func66, Tryd.ntmps66
    go_wp2_with fail
    rw [← HW3.out]
    refine (hr.out).mono ?_
    rintro e w4 ⟨rfl, rfl⟩
    obtain ⟨⟨k0, k1, k2⟩, f0, f1, f2⟩ := cell3 hB.out
    go_wp2_with fail
    refine bodyPost_ret (results_two rfl rfl rfl (put3_block hB.out)) rfl ?_
    exact ⟨by rw [HV3.out]; rfl, put3_below HB3.out (Nat.le_refl _)⟩
  · have HV3 : Hid (V0 = (numV rn, 0)) := Lib.hid (by rw [HV2.out]; rfl)
    have ht := Lib.hid (value_num rn w3)
    clear HV2
    go_enter Tryd.func66, Tryd.ntmps66
    go_wp2_with fail
    rw [← HW3.out]
    refine (hr.out).mono ?_
    rintro e w5 ⟨rfl, rfl⟩
    go_wp2_with fail
    refine (ht.out).mono ?_
    rintro e w4 ⟨rfl, hw4⟩
    have hb4 : Below w3.heap.size w3 w4 := by rw [← hw4]; exact (Below.refl _ _).alloc (Nat.le_refl _) _
    clear hw4
    have hs4 := hb4.size
    have HB4 : Hid (w4.heap[w.heap.size]? = some (.cells #[.int .i64 0, .int .i64 0, .string ⟨#[]⟩] 60 (0, 0))) := Lib.hid ((hb4.block _ (by omega)).trans hB.out)
    have HBW := Lib.hid (HB3.out.trans (hb4.mono (by omega)))
    obtain ⟨⟨k0, k1, k2⟩, f0, f1, f2⟩ := cell3 HB4.out
    clear hb4 ht
    go_wp2_with fail
    refine bodyPost_ret (results_two rfl rfl rfl (put3_block HB4.out)) rfl ?_
    exact ⟨by rw [HV3.out]; rfl, put3_below HBW.out (Nat.le_refl _)⟩
end Go.Proofs.YtldleckgkgeclaaDoor
/-
  Rows that the call itself has made: appended, stored into. No program in sight.
-/
namespace Go.Proofs.YtldleckgkgeclaaDoor
open Go.RowKit

theorem flat_split (l : List V) (j : Nat) (u : Value) (h : (flat l)[j]? = some u) : ∃ v : V, l[j / 3]? = some v ∧ (flat l)[j / 3 * 3 + j % 3]? = some u := by
  have hj : j < (flat l).length := (List.getElem?_eq_some_iff.1 h).1
  rw [flat_len] at hj
  exact ⟨l[j / 3]'(by omega), List.getElem?_eq_getElem (by omega), by rw [show j / 3 * 3 + j % 3 = j from by omega]; exact h⟩
theorem VAt.news {w : World} {b off : Nat} {l : List V} (h : VAt w b off l) (j : Nat) (u : Value) (hu : (flat l)[j]? = some u) : w.cell? ((⟨b, off, none⟩ : Addr).add j) = some u := by
  obtain ⟨v, hv, hf⟩ := flat_split l j u hu
  obtain ⟨f1, f2, f3⟩ := flat_get l _ v hv
  obtain ⟨c1, c2, c3⟩ := h _ v hv
  have e : (⟨b, off, none⟩ : Addr).add j = ⟨b, off + (j / 3 * 3 + j % 3), none⟩ := by
    unfold Addr.add
    split
    · subst_vars; rfl
    · rw [show j / 3 * 3 + j % 3 = j from by omega]
  rw [e]
  have : j % 3 = 0 ∨ j % 3 = 1 ∨ j % 3 = 2 := by omega
  rcases this with h3 | h3 | h3 <;> rw [h3] at hf ⊢
  · rw [Nat.add_zero] at hf ⊢; rw [f1] at hf; rw [c1]; exact hf
  · rw [f2] at hf; rw [← Nat.add_assoc, c2]; exact hf
  · rw [f3] at hf; rw [← Nat.add_assoc, c3]; exact hf

/-- a row of the call's own that is not empty -/
theorem own_full {w : World} {base : Nat} {e : TypeId} {v : Value} {l : List V} {n : Nat} (h : w.ownsRow base e 3 v n (flat l)) (hl : l.length = n) (hn : 0 < n) :
    ∃ g cap, v = .slice (some ⟨g, 0, none⟩) n cap ∧ n ≤ cap ∧ base ≤ g ∧ g < w.heap.size ∧ VAt w g 0 l ∧ ∀ j, w.frozen? ⟨g, j, none⟩ = false := by
  subst hl
  obtain ⟨_, hcase⟩ := id h
  rcases hcase with ⟨_, h0⟩ | ⟨g, cap, cur, rfl, hg, hh, hc, hcap, hsz, htake⟩
  · omega
  · refine ⟨g, cap, rfl, hc, hg, ?_, ?_, fun j => h.frozenAt j⟩
    · rcases Nat.lt_or_ge g w.heap.size with hlt | hge
      · exact hlt
      · rw [Array.getElem?_eq_none hge] at hh; cases hh
    · intro i x hx
      obtain ⟨f1, f2, f3⟩ := flat_get l i x hx
      have hi : i < l.length := (List.getElem?_eq_some_iff.1 hx).1
      rw [Nat.zero_add, h.cellAt _ (by omega), h.cellAt _ (by omega), h.cellAt _ (by omega)]
      exact ⟨f1, f2, f3⟩

/-- one value stored into a row -/
theorem VAt.set3 {w : World} {b : Nat} {l : List V} (h : VAt w b 0 l) {q : Nat} {x : V} (hx : l[q]? = some x) (v : V) :
    VAt (((w.setCell ⟨b, q * 3, none⟩ (.int .i64 v.k)).setCell ⟨b, q * 3 + 1, none⟩ (.int .i64 v.n)).setCell ⟨b, q * 3 + 2, none⟩ (.string v.s)) b 0 (l.set q v) := by
  intro i y hy
  have hq : q < l.length := (List.getElem?_eq_some_iff.1 hx).1
  obtain ⟨x1, x2, x3⟩ := h q x hx
  rw [Nat.zero_add] at x1 x2 x3 ⊢
  by_cases hi : i = q
  · subst hi
    rw [List.getElem?_set_self hq] at hy
    obtain rfl : v = y := by simpa using hy
    refine ⟨?_, ?_, ?_⟩
    · rw [World.cell?_setCell_other _ _ _ _ (by simp), World.cell?_setCell_other _ _ _ _ (by simp)]
      exact World.cell?_setCell_same _ _ _ x1
    · rw [World.cell?_setCell_other _ _ _ _ (by simp)]
      exact World.cell?_setCell_same _ _ _ ((World.cell?_setCell_other _ _ _ _ (by simp)).trans x2)
    · exact World.cell?_setCell_same _ _ _ ((World.cell?_setCell_other _ _ _ _ (by simp)).trans ((World.cell?_setCell_other _ _ _ _ (by simp)).trans x3))
  · rw [List.getElem?_set_ne (by omega)] at hy
    obtain ⟨y1, y2, y3⟩ := h i y hy
    rw [Nat.zero_add] at y1 y2 y3
    refine ⟨?_, ?_, ?_⟩
    all_goals
      rw [World.cell?_setCell_other _ _ _ _ (by simp <;> omega), World.cell?_setCell_other _ _ _ _ (by simp <;> omega), World.cell?_setCell_other _ _ _ _ (by simp <;> omega)]
      assumption
end Go.Proofs.YtldleckgkgeclaaDoor
/-
  Package expr's contracts: eval, Eval.
-/
namespace Go.Proofs.YtldleckgkgeclaaDoor
open Go.RowKit
def V.fine (v : V) : Prop := -9223372036854775808 ≤ v.n ∧ v.n ≤ 9223372036854775807 ∧ v.s.size ≤ 1048576
inductive E.Fine : E → Prop
  | mk (k : Int) (s : ByteArray) (n : Int) (l : List E) (h1 : -9223372036854775808 ≤ n) (h2 : n ≤ 9223372036854775807) (h3 : s.size ≤ 1048576) (h : ∀ e ∈ l, E.Fine e) : E.Fine (.mk k s n l)
theorem typeL_ok (cols : List C) : ∀ {l : List E}, (typeL cols l).2 = 0 → ∀ e ∈ l, (typeE cols e).2 = 0
  | [], _, e, he => by cases he
  | x :: l, h, e, he => by
    rw [typeL] at h
    by_cases hx : (typeE cols x).2 = 0
    · rw [if_pos hx] at h
      rcases List.mem_cons.1 he with rfl | he
      · exact hx
      · exact typeL_ok cols h e he
    · rw [if_neg hx] at h
      exact absurd h hx
theorem type_kids {cols : List C} {k : Int} {s : ByteArray} {n : Int} {l : List E} (h1 : k ≠ 1) (h2 : k ≠ 2) (h3 : k ≠ 3) (h : (typeE cols (.mk k s n l)).2 = 0) : ∀ e ∈ l, (typeE cols e).2 = 0 := by
  rw [typeE, if_neg h1, if_neg h2, if_neg h3] at h
  by_cases hx : (typeL cols l).2 = 0
  · exact typeL_ok cols hx
  · rw [if_neg hx] at h
    exact absurd h hx
theorem wrap_fine (n : Int) : -9223372036854775808 ≤ wrap64 n ∧ wrap64 n ≤ 9223372036854775807 := by unfold wrap64; omega
theorem reckon_fine (op : List UInt8) (a b : Int) : -9223372036854775808 ≤ (reckonL op a b).1 ∧ (reckonL op a b).1 ≤ 9223372036854775807 := by
  unfold reckonL
  repeat (first | exact wrap_fine _ | split)
theorem boolI_fine (b : Bool) : -9223372036854775808 ≤ boolI b ∧ boolI b ≤ 9223372036854775807 := by cases b <;> decide
theorem numV_fine {n : Int} (h : -9223372036854775808 ≤ n ∧ n ≤ 9223372036854775807) : (numV n).fine := ⟨h.1, h.2, Nat.zero_le _⟩
theorem zeroV_fine : zeroV.fine := by unfold V.fine zeroV; decide
theorem operate_fine (op : List UInt8) {a b : V} (ha : a.fine) (hb : b.fine) : (operateL op a b).1.fine := by
  unfold operateL truthV
  have hs := ha.2.2
  by_cases q0 : op = opEq
  · rw [if_pos q0]; exact numV_fine (boolI_fine _)
  rw [if_neg q0]
  by_cases q1 : op = opLt
  · rw [if_pos q1]; exact numV_fine (boolI_fine _)
  rw [if_neg q1]
  by_cases q2 : op = opAnd
  · rw [if_pos q2]; exact numV_fine (boolI_fine _)
  rw [if_neg q2]
  by_cases q3 : op = opOr
  · rw [if_pos q3]; exact numV_fine (boolI_fine _)
  rw [if_neg q3]
  by_cases q4 : op = opNot
  · rw [if_pos q4]; exact numV_fine (boolI_fine _)
  rw [if_neg q4]
  by_cases q5 : op = opLen
  · rw [if_pos q5]; exact numV_fine ⟨by omega, by omega⟩
  rw [if_neg q5]
  by_cases q6 : op = opCat
  · rw [if_pos q6]
    by_cases h40 : 40 < a.s.size + b.s.size
    · rw [if_pos h40]; exact zeroV_fine
    · rw [if_neg h40]
      refine ⟨by show (_ : Int) ≤ 0; decide, by show (0 : Int) ≤ _; decide, ?_⟩
      show (a.s ++ b.s).size ≤ 1048576
      rw [ByteArray.size_append]; omega
  rw [if_neg q6]
  split
  · exact numV_fine (reckon_fine _ _ _)
  · exact zeroV_fine
theorem gather_fine : ∀ {l : List (V × Int)}, (∀ x ∈ l, x.1.fine) → ∀ v ∈ (gather l).1, v.fine
  | [], _, v, hv => by cases hv
  | x :: l, h, v, hv => by
    rw [gather] at hv
    by_cases hx : x.2 = 0
    · rw [if_pos hx] at hv
      rcases List.mem_cons.1 hv with rfl | hv
      · exact h x List.mem_cons_self
      · exact gather_fine (fun y hy => h y (List.mem_cons_of_mem _ hy)) v hv
    · rw [if_neg hx] at hv
      cases hv
theorem getD_fine {l : List V} (h : ∀ v ∈ l, v.fine) (i : Nat) : (l.getD i zeroV).fine := by
  rw [List.getD_eq_getElem?_getD]
  cases e : l[i]? with
  | none => exact zeroV_fine
  | some v => exact h v (List.mem_of_getElem? e)
theorem getD_fine2 {l : List (V × Int)} (h : ∀ v ∈ l, v.1.fine) (i : Nat) : (l.getD i (zeroV, 0)).1.fine := by
  rw [List.getD_eq_getElem?_getD]
  cases e : l[i]? with
  | none => exact zeroV_fine
  | some v => exact h v (List.mem_of_getElem? e)
theorem eval_fine (cols : List C) {r : List V} (hr : ∀ v ∈ r, v.fine) : ∀ e : E, e.Fine → (evalE cols r e).1.fine := by
  refine E.ind fun k s n l ih hf => ?_
  obtain ⟨_, _, _, _, f1, f2, f3, f4⟩ := hf
  have hl : ∀ x ∈ evalL cols r l, x.1.fine := by
    rw [evalL_map]
    intro x hx
    obtain ⟨e, he, rfl⟩ := List.mem_map.1 hx
    exact ih e he (f4 e he)
  rw [evalE]
  by_cases h1 : k = 1
  · rw [if_pos h1]; exact getD_fine hr _
  rw [if_neg h1]
  by_cases h2 : k = 2
  · rw [if_pos h2]; exact numV_fine ⟨f1, f2⟩
  rw [if_neg h2]
  by_cases h3 : k = 3
  · rw [if_pos h3]
    exact ⟨by show (_ : Int) ≤ 0; decide, by show (0 : Int) ≤ _; decide, f3⟩
  rw [if_neg h3]
  split
  · split
    · split <;> exact getD_fine2 hl _
    · exact zeroV_fine
  · split
    · exact operate_fine _ (getD_fine (gather_fine hl) _) (getD_fine (gather_fine hl) _)
    · exact zeroV_fine
theorem gather_step {l : List (V × Int)} {k : Nat} {x : V × Int} (hx : l[k]? = some x) :
    gather (l.drop k) = if x.2 = 0 then (x.1 :: (gather (l.drop (k + 1))).1, (gather (l.drop (k + 1))).2) else ([], x.2) := by
  obtain ⟨h1, e1⟩ := List.getElem?_eq_some_iff.1 hx
  rw [List.drop_eq_getElem_cons h1, e1, gather]
theorem VRow.cells_ {w : World} {A : Option Addr} {l : List V} (h : VRow w w.heap.size A l) {k : Nat} {v : V} (hv : l[k]? = some v) : ∃ b o, A = some ⟨b, o, none⟩ ∧ b < w.heap.size ∧
    w.cell? ⟨b, o + k * 3, none⟩ = some (.int .i64 v.k) ∧ w.cell? ⟨b, o + k * 3 + 1, none⟩ = some (.int .i64 v.n) ∧ w.cell? ⟨b, o + k * 3 + 2, none⟩ = some (.string v.s) := by
  rcases h with rfl | ⟨b, o, rfl, hlt, hA⟩
  · simp at hv
  · obtain ⟨h1, h2, h3⟩ := hA k v hv
    exact ⟨b, o, rfl, hlt, h1, h2, h3⟩

def EvalExp (cols : List C) (r : List V) (e : E) : Prop := madeE e = true → (typeE cols e).2 = 0 → e.Fine → ∀ (A Ac Ar : Option Addr) (c cc cr : Nat) (w : World), EKids w w.heap.size A e.kids → CRow w w.heap.size Ac cols → VRow w w.heap.size Ar r →
  Calls Tryd.prog 48 #[e.val A c, .slice Ac cols.length cc, .slice Ar r.length cr] w fun res w' =>
    res = .returned (.tuple #[.agg #[.int .i64 (evalE cols r e).1.k, .int .i64 (evalE cols r e).1.n, .string (evalE cols r e).1.s], .int .i64 (evalE cols r e).2]) ∧ Below w.heap.size w w'

set_option maxRecDepth 100000 in
set_option maxHeartbeats 1000000 in
theorem eval_leaf (cols : List C) (r : List V) (hcl : cols.length ≤ 9223372036854775807) (hrl : r.length = cols.length) (k : Int) (s : ByteArray) (n : Int) (l : List E) (hk : k = 1 ∨ k = 2 ∨ k = 3) : EvalExp cols r (.mk k s n l) := by
  intro hmade htype hfine A Ac Ar c cc cr w hA hAc hAr
  simp only [E.val, E.k, E.s, E.n, E.kids] at hA ⊢
  obtain ⟨w1, ew1⟩ : ∃ w1, w1 = (w.alloc (.cells #[.int .i64 k, .string s, .int .i64 n, .slice A l.length c] 39)).alloc (.cells #[.int .i64 0, .int .i64 0, .string ⟨#[]⟩] 60) := ⟨_, rfl⟩
  have hb1 : Below w.heap.size w w1 := by rw [ew1]; exact ((Below.refl _ _).alloc (Nat.le_refl _) _).alloc (by simp) _
  have HB1 := Lib.hid hb1
  have hws : w1.heap.size = w.heap.size + 2 := by rw [ew1]; simp
  have hB : Hid (w1.heap[w.heap.size + 1]? = some (.cells #[.int .i64 0, .int .i64 0, .string ⟨#[]⟩] 60 (0, 0))) := Lib.hid (by
    rw [ew1]
    have := heap_alloc_new (w.alloc (.cells #[.int .i64 k, .string s, .int .i64 n, .slice A l.length c] 39)) (.cells #[.int .i64 0, .int .i64 0, .string ⟨#[]⟩] 60)
    simpa using this)
  have HW1 := Lib.hid ew1
  rcases hk with rfl | rfl | rfl
  · have hfb : findB cols s = true := by
      cases h : findB cols s
      · rw [typeE, if_pos rfl, h] at htype; simp at htype
      · rfl
    obtain ⟨j, x, ej, hx⟩ := find_at hfb
    have hj : j < cols.length := (List.getElem?_eq_some_iff.1 hx).1
    obtain ⟨v, hv⟩ : ∃ v, r[j]? = some v := ⟨_, List.getElem?_eq_getElem (by omega)⟩
    have hz : Hid (evalE cols r (.mk 1 s n l) = (v, 0)) := Lib.hid (by rw [evalE, if_pos rfl, ej, Int.toNat_natCast, List.getD_eq_getElem?_getD, hv]; rfl)
    obtain ⟨b, o, rfl, hlt, c1, c2, c3⟩ := hAr.cells_ hv
    have hf := Lib.hid (find_any Ac cc cols hcl s w1 ((hAc.below hb1).more hb1.size))
    rw [hfb, ej] at hf
    rw [hrl]
    obtain ⟨vk, vn, vs⟩ := v
    simp only at c1 c2 c3
    generalize evalE cols r (.mk 1 s n l) = q at *
    generalize cols.length = m at *
    clear hA hAc hAr hmade htype hfine hx hfb ej hv ew1 hrl
    generalize l.length = ln at *
    go_enter Tryd.func48, Tryd.ntmps48
    go_wp2_with fail
    rw [← HW1.out]
    refine (hf.out).mono ?_
    rintro e w4 ⟨rfl, hb4⟩
    have hs4 := hb4.size
    have d1 := ((hb1.trans (hb4.mono (by omega))).cell hlt).trans c1
    have d2 := ((hb1.trans (hb4.mono (by omega))).cell hlt).trans c2
    have d3 := ((hb1.trans (hb4.mono (by omega))).cell hlt).trans c3
    have HB4 : Hid (w4.heap[w.heap.size + 1]? = some (.cells #[.int .i64 0, .int .i64 0, .string ⟨#[]⟩] 60 (0, 0))) := Lib.hid ((hb4.block _ (by omega)).trans hB.out)
    have HBW := Lib.hid (HB1.out.trans (hb4.mono (by omega)))
    obtain ⟨⟨k0, k1, k2⟩, f0, f1, f2⟩ := cell3 HB4.out
    clear hb4 hf hb1 c1 c2 c3
    go_wp2_with fail
    refine bodyPost_ret (results_two rfl rfl rfl (put3_block HB4.out)) rfl ?_
    exact ⟨by rw [hz.out]; rfl, put3_below HBW.out (Nat.le_succ _)⟩
  · have hz : Hid (evalE cols r (.mk 2 s n l) = (numV n, 0)) := Lib.hid (by rw [evalE, if_neg (by decide), if_pos rfl])
    have ht := Lib.hid (value_num n w1)
    generalize evalE cols r (.mk 2 s n l) = q at *
    clear hA hAc hAr hmade htype hfine ew1
    generalize l.length = ln at *
    go_enter Tryd.func48, Tryd.ntmps48
    go_wp2_with fail
    rw [← HW1.out]
    refine (ht.out).mono ?_
    rintro e w4 ⟨rfl, hw4⟩
    have hb4 : Below w1.heap.size w1 w4 := by rw [← hw4]; exact (Below.refl _ _).alloc (Nat.le_refl _) _
    clear hw4
    have hs4 := hb4.size
    have HB4 : Hid (w4.heap[w.heap.size + 1]? = some (.cells #[.int .i64 0, .int .i64 0, .string ⟨#[]⟩] 60 (0, 0))) := Lib.hid ((hb4.block _ (by omega)).trans hB.out)
    have HBW := Lib.hid (HB1.out.trans (hb4.mono (by omega)))
    obtain ⟨⟨k0, k1, k2⟩, f0, f1, f2⟩ := cell3 HB4.out
    clear hb4 ht hb1
    go_wp2_with fail
    refine bodyPost_ret (results_two rfl rfl rfl (put3_block HB4.out)) rfl ?_
    exact ⟨by rw [hz.out]; rfl, put3_below HBW.out (Nat.le_succ _)⟩
  · have hz : Hid (evalE cols r (.mk 3 s n l) = (strV s, 0)) := Lib.hid (by rw [evalE, if_neg (by decide), if_neg (by decide), if_pos rfl])
    have ht := Lib.hid (value_str s w1)
    generalize evalE cols r (.mk 3 s n l) = q at *
    clear hA hAc hAr hmade htype hfine ew1
    generalize l.length = ln at *
    go_enter Tryd.func48, Tryd.ntmps48
    go_wp2_with fail
    rw [← HW1.out]
    refine (ht.out).mono ?_
    rintro e w4 ⟨rfl, hw4⟩
    have hb4 : Below w1.heap.size w1 w4 := by rw [← hw4]; exact (Below.refl _ _).alloc (Nat.le_refl _) _
    clear hw4
    have hs4 := hb4.size
    have HB4 : Hid (w4.heap[w.heap.size + 1]? = some (.cells #[.int .i64 0, .int .i64 0, .string ⟨#[]⟩] 60 (0, 0))) := Lib.hid ((hb4.block _ (by omega)).trans hB.out)
    have HBW := Lib.hid (HB1.out.trans (hb4.mono (by omega)))
    obtain ⟨⟨k0, k1, k2⟩, f0, f1, f2⟩ := cell3 HB4.out
    clear hb4 ht hb1
    go_wp2_with fail
    refine bodyPost_ret (results_two rfl rfl rfl (put3_block HB4.out)) rfl ?_
    exact ⟨by rw [hz.out]; rfl, put3_below HBW.out (Nat.le_succ _)⟩

/-- behind a call, and a value put into a box: the result's own box is as it was -/
theorem boxed {w w1 w4 : World} (HB1 : Hid (Below w.heap.size w w1)) (hB : Hid (w1.heap[w.heap.size + 1]? = some (.cells #[.int .i64 0, .int .i64 0, .string ⟨#[]⟩] 60 (0, 0)))) (hb4 : Below w1.heap.size w1 w4)
    (hws : w1.heap.size = w.heap.size + 2) (vk vn : Int) (vs : ByteArray) :
    Hid ((w4.alloc (.cells #[.int .i64 vk, .int .i64 vn, .string vs] 60)).heap[w.heap.size + 1]? = some (.cells #[.int .i64 0, .int .i64 0, .string ⟨#[]⟩] 60 (0, 0))) ∧
    Hid (Below w.heap.size w (w4.alloc (.cells #[.int .i64 vk, .int .i64 vn, .string vs] 60))) ∧ w.heap.size + 2 ≤ w4.heap.size := by
  have hs4 := hb4.size
  refine ⟨Lib.hid ?_, Lib.hid ?_, by omega⟩
  · rw [Below.heap_alloc _ _ _ (by omega)]
    exact (hb4.block _ (by omega)).trans hB.out
  · exact (HB1.out.trans (hb4.mono (by omega))).alloc (by omega) _
theorem list3 {α : Type} {l : List α} (h : l.length = 3) : ∃ a b c, l = [a, b, c] := by
  match l, h with
  | [a, b, c], _ => exact ⟨a, b, c, rfl⟩
set_option maxRecDepth 100000 in
set_option maxHeartbeats 1000000 in
theorem eval_if (cols : List C) (r : List V) (k : Int) (s : ByteArray) (n : Int) (l : List E) (hM : ∀ e ∈ l, EvalExp cols r e) (h1 : k ≠ 1) (h2 : k ≠ 2) (h3 : k ≠ 3) (hs : s.toList = opIf) : EvalExp cols r (.mk k s n l) := by
  intro hmade htype hfine A Ac Ar c cc cr w hA hAc hAr
  obtain ⟨_, hlc, hmk⟩ := made_kids h1 h2 h3 hmade
  have htk := type_kids h1 h2 h3 htype
  obtain ⟨_, _, _, _, _, _, _, hfk⟩ := hfine
  rw [hs] at hlc
  obtain ⟨x0, x1, x2, rfl⟩ := list3 (show l.length = 3 from hlc)
  simp only [E.val, E.k, E.s, E.n, E.kids, List.length_cons, List.length_nil, Nat.zero_add, Nat.reduceAdd] at hA ⊢
  obtain ⟨w1, ew1⟩ : ∃ w1, w1 = (w.alloc (.cells #[.int .i64 k, .string s, .int .i64 n, .slice A 3 c] 39)).alloc (.cells #[.int .i64 0, .int .i64 0, .string ⟨#[]⟩] 60) := ⟨_, rfl⟩
  have hb1 : Below w.heap.size w w1 := by rw [ew1]; exact ((Below.refl _ _).alloc (Nat.le_refl _) _).alloc (by simp) _
  have HB1 := Lib.hid hb1
  have hws : w1.heap.size = w.heap.size + 2 := by rw [ew1]; simp
  have hB : Hid (w1.heap[w.heap.size + 1]? = some (.cells #[.int .i64 0, .int .i64 0, .string ⟨#[]⟩] 60 (0, 0))) := Lib.hid (by
    rw [ew1]
    have := heap_alloc_new (w.alloc (.cells #[.int .i64 k, .string s, .int .i64 n, .slice A 3 c] 39)) (.cells #[.int .i64 0, .int .i64 0, .string ⟨#[]⟩] 60)
    simpa using this)
  have HW1 := Lib.hid ew1
  have H0 := Lib.hid (hM x0 (by simp) (hmk x0 (by simp)) (htk x0 (by simp)) (hfk x0 (by simp)))
  have H1 := Lib.hid (hM x1 (by simp) (hmk x1 (by simp)) (htk x1 (by simp)) (hfk x1 (by simp)))
  have H2 := Lib.hid (hM x2 (by simp) (hmk x2 (by simp)) (htk x2 (by simp)) (hfk x2 (by simp)))
  have hz : Hid (evalE cols r (.mk k s n [x0, x1, x2]) = if (evalE cols r x0).2 = 0 then (if (evalE cols r x0).1.n = 0 then evalE cols r x2 else evalE cols r x1) else (zeroV, (evalE cols r x0).2)) := Lib.hid (by
    rw [evalE, if_neg h1, if_neg h2, if_neg h3, if_pos hs]; rfl)
  have HA := Lib.hid ((hA.low hb1).more hb1.size)
  have HC := Lib.hid ((hAc.below hb1).more hb1.size)
  have HR := Lib.hid ((hAr.below hb1).more hb1.size)
  generalize evalE cols r (.mk k s n [x0, x1, x2]) = q at *
  have h1' : (k == 1) = false := by simpa using h1
  have h2' : (k == 2) = false := by simpa using h2
  have h3' : (k == 3) = false := by simpa using h3
  simp only [opIf] at hs
  obtain ⟨mc, emc⟩ : ∃ m, m = cols.length := ⟨_, rfl⟩
  obtain ⟨mr, emr⟩ : ∃ m, m = r.length := ⟨_, rfl⟩
  have HMC := Lib.hid emc
  have HMR := Lib.hid emr
  rw [← emc, ← emr]
  obtain ⟨b, o, A0, e0, rfl, hlt, a0, a1, a2, a3, hK0⟩ := HA.out.get_ w1 (Below.refl _ _) 0 x0 rfl
  have hx0 : (0 : Int) < 3 := by omega
  have hx1 : (1 : Int) < 3 := by omega
  have hx2 : (2 : Int) < 3 := by omega
  have H0c := Lib.hid (H0.out A0 Ac Ar e0 cc cr w1 hK0 HC.out HR.out)
  obtain ⟨xk, xs, xn, xl⟩ := x0
  simp only [E.val, E.k, E.s, E.n, E.kids, Nat.zero_mul, Nat.add_zero] at a0 a1 a2 a3 H0c
  rw [← HMC.out, ← HMR.out] at H0c
  generalize hq0 : evalE cols r (.mk xk xs xn xl) = q0 at *
  obtain ⟨⟨vk, vn, vs⟩, ve⟩ := q0
  simp only at H0c hz
  generalize xl.length = xm at *
  clear hA hAc hAr hmade htype hmk htk hfk hM ew1 h1 h2 h3 hlc H0 hK0 emc emr hq0
  rw [HW1.out] at a0 a1 a2 a3
  by_cases hve : ve = 0
  · subst hve
    have hz1 : Hid (q = if vn = 0 then evalE cols r x2 else evalE cols r x1) := Lib.hid (by rw [hz.out, if_pos rfl])
    clear hz
    obtain ⟨q1, hq1⟩ : ∃ q1, q1 = evalE cols r x1 := ⟨_, rfl⟩
    obtain ⟨q2, hq2⟩ : ∃ q2, q2 = evalE cols r x2 := ⟨_, rfl⟩
    rw [← hq1, ← hq2] at hz1
    by_cases hvn : vn = 0
    · subst hvn
      have hz2 : Hid (q = q2) := Lib.hid (by rw [hz1.out, if_pos rfl])
      clear hz1
      have HQ := Lib.hid hq2
      clear hq1 hq2
      go_enter Tryd.func48, Tryd.ntmps48
      go_wp2_with fail
      rw [← HW1.out]
      refine (H0c.out).mono ?_
      rintro e w4 ⟨rfl, hb4⟩
      obtain ⟨HB5, HBW, hs5⟩ := boxed HB1 hB hb4 hws vk 0 vs
      have hb5 : Below w1.heap.size w1 (w4.alloc (.cells #[.int .i64 vk, .int .i64 0, .string vs] 60)) := hb4.alloc hb4.size _
      obtain ⟨b', o', A2, e2, hb', _, a0, a1, a2, a3, hK2⟩ := HA.out.get_ _ hb5 2 x2 rfl
      injection hb' with hb'
      injection hb' with hbb hoo
      subst hbb hoo
      have H2c := Lib.hid (H2.out A2 Ac Ar e2 cc cr _ hK2 ((HC.out.below hb5).more hb5.size) ((HR.out.below hb5).more hb5.size))
      obtain ⟨yk, ys, yn, yl⟩ := x2
      simp only [E.val, E.k, E.s, E.n, E.kids] at a0 a1 a2 a3 H2c
      rw [← HMC.out, ← HMR.out, ← HQ.out] at H2c
      generalize yl.length = ym at *
      obtain ⟨⟨uk, un, us⟩, ue⟩ := q2
      simp only at H2c
      clear hb4 hb5 H0c hb1 hK2
      go_wp2_with fail
      refine (H2c.out).mono ?_
      rintro e w6 ⟨rfl, hb6⟩
      have HB6 : Hid (w6.heap[w.heap.size + 1]? = some (.cells #[.int .i64 0, .int .i64 0, .string ⟨#[]⟩] 60 (0, 0))) := Lib.hid ((hb6.block _ (by simp; omega)).trans HB5.out)
      have HBX := Lib.hid (HBW.out.trans (hb6.mono (by simp; omega)))
      obtain ⟨⟨k0, k1, k2⟩, f0, f1, f2⟩ := cell3 HB6.out
      clear hb6 H2c
      go_wp2_with fail
      refine bodyPost_ret (results_two rfl rfl rfl (put3_block HB6.out)) rfl ?_
      exact ⟨by rw [hz2.out]; rfl, put3_below HBX.out (Nat.le_succ _)⟩
    · have hvn' : (vn != 0) = true := by simpa using hvn
      have hz2 : Hid (q = q1) := Lib.hid (by rw [hz1.out, if_neg hvn])
      clear hz1
      have HQ := Lib.hid hq1
      clear hq1 hq2
      go_enter Tryd.func48, Tryd.ntmps48
      go_wp2_with fail
      rw [← HW1.out]
      refine (H0c.out).mono ?_
      rintro e w4 ⟨rfl, hb4⟩
      obtain ⟨HB5, HBW, hs5⟩ := boxed HB1 hB hb4 hws vk vn vs
      have hb5 : Below w1.heap.size w1 (w4.alloc (.cells #[.int .i64 vk, .int .i64 vn, .string vs] 60)) := hb4.alloc hb4.size _
      obtain ⟨b', o', A2, e2, hb', _, a0, a1, a2, a3, hK2⟩ := HA.out.get_ _ hb5 1 x1 rfl
      injection hb' with hb'
      injection hb' with hbb hoo
      subst hbb hoo
      have H2c := Lib.hid (H1.out A2 Ac Ar e2 cc cr _ hK2 ((HC.out.below hb5).more hb5.size) ((HR.out.below hb5).more hb5.size))
      obtain ⟨yk, ys, yn, yl⟩ := x1
      simp only [E.val, E.k, E.s, E.n, E.kids, Nat.one_mul] at a0 a1 a2 a3 H2c
      rw [← HMC.out, ← HMR.out, ← HQ.out] at H2c
      generalize yl.length = ym at *
      obtain ⟨⟨uk, un, us⟩, ue⟩ := q1
      simp only at H2c
      clear hb4 hb5 H0c hb1 hK2
      go_wp2_with fail
      refine (H2c.out).mono ?_
      rintro e w6 ⟨rfl, hb6⟩
      have HB6 : Hid (w6.heap[w.heap.size + 1]? = some (.cells #[.int .i64 0, .int .i64 0, .string ⟨#[]⟩] 60 (0, 0))) := Lib.hid ((hb6.block _ (by simp; omega)).trans HB5.out)
      have HBX := Lib.hid (HBW.out.trans (hb6.mono (by simp; omega)))
      obtain ⟨⟨k0, k1, k2⟩, f0, f1, f2⟩ := cell3 HB6.out
      clear hb6 H2c
      go_wp2_with fail
      refine bodyPost_ret (results_two rfl rfl rfl (put3_block HB6.out)) rfl ?_
      exact ⟨by rw [hz2.out]; rfl, put3_below HBX.out (Nat.le_succ _)⟩
  · have hve' : (ve != 0) = true := by simpa using hve
    have hz2 : Hid (q = (zeroV, ve)) := Lib.hid (by rw [hz.out, if_neg hve])
    clear hz
    go_enter Tryd.func48, Tryd.ntmps48
    go_wp2_with fail
    rw [← HW1.out]
    refine (H0c.out).mono ?_
    rintro e w4 ⟨rfl, hb4⟩
    obtain ⟨HB5, HBW, hs5⟩ := boxed HB1 hB hb4 hws vk vn vs
    obtain ⟨⟨k0, k1, k2⟩, f0, f1, f2⟩ := cell3 HB5.out
    clear hb4 H0c hb1
    go_wp2_with fail
    refine bodyPost_ret (results_two rfl rfl rfl (put3_block HB5.out)) rfl ?_
    exact ⟨by rw [hz2.out]; rfl, put3_below HBW.out (Nat.le_succ _)⟩
end Go.Proofs.YtldleckgkgeclaaDoor
/-
  Trees of brackets as plain trees, and as they lie in memory; expressions that the call itself makes. No program in sight.
-/
namespace Go.Proofs.YtldleckgkgeclaaDoor
open Go.RowKit

inductive T where
  | mk (k : Int) (s : ByteArray) (n : Int) (kids : List T) (at_ : Int)
def T.k : T → Int | .mk k _ _ _ _ => k
def T.s : T → ByteArray | .mk _ s _ _ _ => s
def T.n : T → Int | .mk _ _ n _ _ => n
def T.kids : T → List T | .mk _ _ _ l _ => l
def T.at_ : T → Int | .mk _ _ _ _ a => a
theorem T.ind {P : T → Prop} (h : ∀ k s n l a, (∀ e ∈ l, P e) → P (.mk k s n l a)) : ∀ e, P e := by
  intro e
  exact T.rec (motive_1 := P) (motive_2 := fun l => ∀ e ∈ l, P e) (fun k s n l a ih => h k s n l a ih) (fun e he => by cases he) (fun e l h1 h2 x hx => by
    rcases List.mem_cons.1 hx with rfl | hx
    · exact h1
    · exact h2 x hx) e
/-- a slice at address A holds the trees l, below block B, and so on downwards -/
inductive TKids (w : World) (B : Nat) : Option Addr → List T → Prop
  | nil (A : Option Addr) : TKids w B A []
  | mk (b off : Nat) (l : List T) (hn : l.length ≤ 9223372036854775807) (hb : b < B) (A : Nat → Option Addr) (c : Nat → Nat)
      (h : ∀ i e, l[i]? = some e → w.cell? ⟨b, off + i * 5, none⟩ = some (.int .i64 e.k) ∧ w.cell? ⟨b, off + i * 5 + 1, none⟩ = some (.string e.s) ∧
        w.cell? ⟨b, off + i * 5 + 2, none⟩ = some (.int .i64 e.n) ∧ w.cell? ⟨b, off + i * 5 + 3, none⟩ = some (.slice (A i) e.kids.length (c i)) ∧ w.cell? ⟨b, off + i * 5 + 4, none⟩ = some (.int .i64 e.at_) ∧ e.kids.length ≤ c i)
      (hk : ∀ i e, l[i]? = some e → TKids w B (A i) e.kids) : TKids w B (some ⟨b, off, none⟩) l
theorem TKids.low {w w' : World} {B : Nat} {A : Option Addr} {l : List T} (h : TKids w B A l) (hb : Below B w w') : TKids w' B A l := by
  induction h with
  | nil A => exact .nil A
  | mk b off l hn hlt A c h hk ih =>
    refine .mk b off l hn hlt A c (fun i e he => ?_) (fun i e he => ih i e he)
    obtain ⟨h1, h2, h3, h4, h5, h6⟩ := h i e he
    exact ⟨(hb.cell hlt).trans h1, (hb.cell hlt).trans h2, (hb.cell hlt).trans h3, (hb.cell hlt).trans h4, (hb.cell hlt).trans h5, h6⟩
theorem TKids.more {w : World} {B B' : Nat} {A : Option Addr} {l : List T} (h : TKids w B A l) (hB : B ≤ B') : TKids w B' A l := by
  induction h with
  | nil A => exact .nil A
  | mk b off l hn hlt A c h hk ih => exact .mk b off l hn (by omega) A c h (fun i e he => ih i e he)
theorem TKids.len {w : World} {B : Nat} {A : Option Addr} {l : List T} (h : TKids w B A l) : l.length ≤ 9223372036854775807 := by
  cases h with
  | nil A => simp
  | mk b off l hn hlt A c h hk => exact hn
theorem TKids.get_ {w : World} {A : Option Addr} {l : List T} (h : TKids w w.heap.size A l) : ∀ w1, Below w.heap.size w w1 → ∀ i e, l[i]? = some e →
    ∃ b o A' c', A = some ⟨b, o, none⟩ ∧ b < w.heap.size ∧ w1.cell? ⟨b, o + i * 5, none⟩ = some (.int .i64 e.k) ∧ w1.cell? ⟨b, o + i * 5 + 1, none⟩ = some (.string e.s) ∧
      w1.cell? ⟨b, o + i * 5 + 2, none⟩ = some (.int .i64 e.n) ∧ w1.cell? ⟨b, o + i * 5 + 3, none⟩ = some (.slice A' e.kids.length c') ∧ w1.cell? ⟨b, o + i * 5 + 4, none⟩ = some (.int .i64 e.at_) ∧ e.kids.length ≤ c' ∧ TKids w1 w1.heap.size A' e.kids := by
  intro w1 hb i e he
  cases h with
  | nil A => simp at he
  | mk b off l hn hlt A c h hk =>
    obtain ⟨h1, h2, h3, h4, h5, h6⟩ := h i e he
    exact ⟨b, off, A i, c i, rfl, hlt, (hb.cell hlt).trans h1, (hb.cell hlt).trans h2, (hb.cell hlt).trans h3, (hb.cell hlt).trans h4, (hb.cell hlt).trans h5, h6, ((hk i e he).low hb).more hb.size⟩
/-- a tree's value -/
def T.val (e : T) (A : Option Addr) (c : Nat) : Value := .agg #[.int .i64 e.k, .string e.s, .int .i64 e.n, .slice A e.kids.length c, .int .i64 e.at_]

/-! ### what expr.Read gives -/
def zeroE : E := .mk 0 ⟨#[]⟩ 0 []
mutual
def readT : T → E × Int × Int
  | .mk k s n l a => if k = 2 then (if nameB s then (.mk 1 s 0 [], 0, 0) else (zeroE, 20, a))
    else if k = 3 then (.mk 2 ⟨#[]⟩ n [], 0, 0) else if k = 4 then (.mk 3 s 0 [], 0, 0)
    else if k = 1 then
      (match l with
        | [] => (zeroE, 12, a)
        | x :: ks => if x.k = 2 ∧ cntL x.s.toList ≠ 0 then
            (if ks.length = cntL x.s.toList then (if (readL ks).2.1 = 0 then (.mk 4 x.s 0 (readL ks).1, 0, 0) else (zeroE, (readL ks).2.1, (readL ks).2.2)) else (zeroE, 23, a))
          else (zeroE, 12, a))
    else (zeroE, 12, a)
def readL : List T → List E × Int × Int
  | [] => ([], 0, 0)
  | x :: l => if (readT x).2.1 = 0 then ((readT x).1 :: (readL l).1, (readL l).2.1, (readL l).2.2) else ([], (readT x).2.1, (readT x).2.2)
end

/-! ### expressions in a row that the call itself has made -/
abbrev EP := E × Option Addr × Nat
def EP.cs (x : EP) : List Value := [.int .i64 x.1.k, .string x.1.s, .int .i64 x.1.n, .slice x.2.1 x.1.kids.length x.2.2]
def flatP (l : List EP) : List Value := l.flatMap EP.cs
theorem flatP_len (l : List EP) : (flatP l).length = l.length * 4 := by
  induction l with
  | nil => rfl
  | cons v l ih => show ((EP.cs v) ++ flatP l).length = _; simp [ih, EP.cs]; omega
theorem flatP_get (l : List EP) : ∀ (i : Nat) (v : EP), l[i]? = some v → (flatP l)[i * 4]? = some (.int .i64 v.1.k) ∧ (flatP l)[i * 4 + 1]? = some (.string v.1.s) ∧ (flatP l)[i * 4 + 2]? = some (.int .i64 v.1.n) ∧ (flatP l)[i * 4 + 3]? = some (.slice v.2.1 v.1.kids.length v.2.2) := by
  induction l with
  | nil => intro i v h; simp at h
  | cons x l ih =>
    intro i v h
    have e : flatP (x :: l) = EP.cs x ++ flatP l := rfl
    rw [e]
    cases i with
    | zero =>
      obtain rfl : x = v := by simpa using h
      exact ⟨rfl, rfl, rfl, rfl⟩
    | succ i =>
      have := ih i v (by simpa using h)
      have hl : (EP.cs x).length = 4 := rfl
      rw [List.getElem?_append_right (by omega), List.getElem?_append_right (by omega), List.getElem?_append_right (by omega), List.getElem?_append_right (by omega), hl]
      rw [show (i + 1) * 4 - 4 = i * 4 from by omega, show (i + 1) * 4 + 1 - 4 = i * 4 + 1 from by omega, show (i + 1) * 4 + 2 - 4 = i * 4 + 2 from by omega, show (i + 1) * 4 + 3 - 4 = i * 4 + 3 from by omega]
      exact this
theorem flatP_one (v : EP) : flatP [v] = EP.cs v := by simp [flatP]
theorem flatP_append (a b : List EP) : flatP (a ++ b) = flatP a ++ flatP b := by simp [flatP]
theorem flatP_ones (l : List EP) : ∀ u ∈ flatP l, u.oneCell' = true := by
  intro u hu
  obtain ⟨v, _, hv⟩ := List.mem_flatMap.1 hu
  simp only [EP.cs, List.mem_cons, List.not_mem_nil, or_false] at hv
  rcases hv with rfl | rfl | rfl | rfl <;> rfl
/-- the same as EKids, with all its blocks in S -/
inductive XKids (w : World) (S : Nat → Prop) : Option Addr → List E → Prop
  | nil (A : Option Addr) : XKids w S A []
  | mk (b off : Nat) (l : List E) (hn : l.length ≤ 9223372036854775807) (hb : S b) (A : Nat → Option Addr) (c : Nat → Nat)
      (h : ∀ i e, l[i]? = some e → w.cell? ⟨b, off + i * 4, none⟩ = some (.int .i64 e.k) ∧ w.cell? ⟨b, off + i * 4 + 1, none⟩ = some (.string e.s) ∧
        w.cell? ⟨b, off + i * 4 + 2, none⟩ = some (.int .i64 e.n) ∧ w.cell? ⟨b, off + i * 4 + 3, none⟩ = some (.slice (A i) e.kids.length (c i)))
      (hk : ∀ i e, l[i]? = some e → XKids w S (A i) e.kids) : XKids w S (some ⟨b, off, none⟩) l
theorem XKids.kept {w w' : World} {S : Nat → Prop} {A : Option Addr} {l : List E} (h : XKids w S A l) (hw : ∀ k, S k → w'.heap[k]? = w.heap[k]?) : XKids w' S A l := by
  induction h with
  | nil A => exact .nil A
  | mk b off l hn hlt A c h hk ih =>
    refine .mk b off l hn hlt A c (fun i e he => ?_) (fun i e he => ih i e he)
    have hc : ∀ o, w'.cell? ⟨b, o, none⟩ = w.cell? ⟨b, o, none⟩ := fun o => World.cell?_of_block (hw b hlt)
    obtain ⟨h1, h2, h3, h4⟩ := h i e he
    exact ⟨(hc _).trans h1, (hc _).trans h2, (hc _).trans h3, (hc _).trans h4⟩
theorem XKids.mono {w : World} {S S' : Nat → Prop} {A : Option Addr} {l : List E} (h : XKids w S A l) (hS : ∀ k, S k → S' k) : XKids w S' A l := by
  induction h with
  | nil A => exact .nil A
  | mk b off l hn hlt A c h hk ih => exact .mk b off l hn (hS b hlt) A c h (fun i e he => ih i e he)
theorem XKids.to {w : World} {S : Nat → Prop} {B : Nat} {A : Option Addr} {l : List E} (h : XKids w S A l) (hS : ∀ k, S k → k < B) : EKids w B A l := by
  induction h with
  | nil A => exact .nil A
  | mk b off l hn hlt A c h hk ih => exact .mk b off l hn (hS b hlt) A c h (fun i e he => ih i e he)
/-- what is owned is a row of expressions -/
theorem own_exprs {w : World} {base : Nat} {e : TypeId} {v : Value} {l : List EP} (h : w.ownsRow base e 4 v l.length (flatP l)) (hn : l.length ≤ 9223372036854775807) {S : Nat → Prop} (hS : ∀ g, base ≤ g → g < w.heap.size → S g) (hk : ∀ x ∈ l, XKids w S x.2.1 x.1.kids) :
    ∃ A c, v = .slice A (l.map Prod.fst).length c ∧ XKids w S A (l.map Prod.fst) := by
  obtain ⟨_, hcase⟩ := id h
  rcases hcase with ⟨rfl, h0⟩ | ⟨g, cap, cur, rfl, hg, hh, hc, hcap, hsz, htake⟩
  · have e0 : l = [] := List.eq_nil_of_length_eq_zero h0
    subst e0
    exact ⟨none, 0, rfl, .nil _⟩
  · refine ⟨some ⟨g, 0, none⟩, cap, by rw [List.length_map], .mk g 0 _ (by rw [List.length_map]; exact hn) ?_ (fun i => ((l[i]?).map fun x => x.2.1).getD none) (fun i => ((l[i]?).map fun x => x.2.2).getD 0) (fun i x hx => ?_) (fun i x hx => ?_)⟩
    · refine hS g hg ?_
      rcases Nat.lt_or_ge g w.heap.size with hlt | hge
      · exact hlt
      · rw [Array.getElem?_eq_none hge] at hh; cases hh
    · rw [List.getElem?_map] at hx
      cases hl : l[i]? with
      | none => rw [hl] at hx; cases hx
      | some y =>
        rw [hl] at hx
        obtain rfl : y.1 = x := by simpa using hx
        obtain ⟨f1, f2, f3, f4⟩ := flatP_get l i y hl
        have hi : i < l.length := (List.getElem?_eq_some_iff.1 hl).1
        rw [Nat.zero_add, h.cellAt _ (by omega), h.cellAt _ (by omega), h.cellAt _ (by omega), h.cellAt _ (by omega)]
        exact ⟨f1, f2, f3, f4⟩
    · rw [List.getElem?_map] at hx
      cases hl : l[i]? with
      | none => rw [hl] at hx; cases hx
      | some y =>
        rw [hl] at hx
        obtain rfl : y.1 = x := by simpa using hx
        exact hk y (List.mem_of_getElem? hl)
end Go.Proofs.YtldleckgkgeclaaDoor
/-
  ExprBack: an expression that was read, as a tree, and read again. No program in sight.
-/
namespace Go.Proofs.YtldleckgkgeclaaDoor
open Go.RowKit
/- what printing looks at -/
mutual
def canT : T → T
  | .mk k s n l _ => if k = 2 then .mk 2 s 0 [] 0 else if k = 3 then .mk 3 ⟨#[]⟩ n [] 0 else if k = 4 then .mk 4 s 0 [] 0 else .mk 1 ⟨#[]⟩ 0 (canL l) 0
def canL : List T → List T
  | [] => []
  | x :: l => canT x :: canL l
end
/- an expression as a tree -/
mutual
def treeE : E → T
  | .mk k s n l => if k = 1 then .mk 2 s 0 [] 0 else if k = 2 then .mk 3 ⟨#[]⟩ n [] 0 else if k = 3 then .mk 4 s 0 [] 0 else .mk 1 ⟨#[]⟩ 0 (.mk 2 s 0 [] 0 :: treeL l) 0
def treeL : List E → List T
  | [] => []
  | x :: l => treeE x :: treeL l
end
/-- what expr.Made accepts -/
inductive MadeE : E → Prop
  | col (s : ByteArray) (h : nameB s = true) : MadeE (.mk 1 s 0 [])
  | num (n : Int) : MadeE (.mk 2 ⟨#[]⟩ n [])
  | str (s : ByteArray) : MadeE (.mk 3 s 0 [])
  | app (s : ByteArray) (l : List E) (h0 : cntL s.toList ≠ 0) (hl : l.length = cntL s.toList) (hk : ∀ e ∈ l, MadeE e) : MadeE (.mk 4 s 0 l)
theorem treeL_length (l : List E) : (treeL l).length = l.length := by
  induction l with
  | nil => rfl
  | cons x l ih => rw [treeL, List.length_cons, List.length_cons, ih]
def BackT (t : T) : Prop := (readT t).2.1 = 0 → treeE (readT t).1 = canT t ∧ readT (treeE (readT t).1) = ((readT t).1, 0, 0) ∧ MadeE (readT t).1
theorem back_list : ∀ (l : List T), (∀ t ∈ l, BackT t) → (readL l).2.1 = 0 → treeL (readL l).1 = canL l ∧ readL (treeL (readL l).1) = ((readL l).1, 0, 0) ∧ (∀ e ∈ (readL l).1, MadeE e) ∧ (readL l).1.length = l.length
  | [], _, _ => by
    rw [readL]
    exact ⟨by rw [treeL, canL], by rw [treeL, readL], (fun e he => by cases he), rfl⟩
  | x :: l, hM, h => by
    rw [readL] at h ⊢
    by_cases hx : (readT x).2.1 = 0
    · rw [if_pos hx] at h ⊢
      simp only at h ⊢
      obtain ⟨h1, h2, h3⟩ := hM x List.mem_cons_self hx
      obtain ⟨g1, g2, g3, g4⟩ := back_list l (fun t ht => hM t (List.mem_cons_of_mem _ ht)) h
      refine ⟨by rw [treeL, canL, h1, g1], ?_, fun e he => ?_, by rw [List.length_cons, List.length_cons, g4]⟩
      · rw [treeL, readL, h2, if_pos rfl, g2]
      · rcases List.mem_cons.1 he with rfl | he
        · exact h3
        · exact g3 e he
    · rw [if_neg hx] at h
      exact absurd h hx
theorem tree_col (s : ByteArray) (n : Int) (l : List E) : treeE (.mk 1 s n l) = .mk 2 s 0 [] 0 := by unfold treeE; rw [if_pos rfl]
theorem tree_num (s : ByteArray) (n : Int) (l : List E) : treeE (.mk 2 s n l) = .mk 3 ⟨#[]⟩ n [] 0 := by unfold treeE; rw [if_neg (by decide), if_pos rfl]
theorem tree_str (s : ByteArray) (n : Int) (l : List E) : treeE (.mk 3 s n l) = .mk 4 s 0 [] 0 := by unfold treeE; rw [if_neg (by decide), if_neg (by decide), if_pos rfl]
theorem tree_app (s : ByteArray) (n : Int) (l : List E) : treeE (.mk 4 s n l) = .mk 1 ⟨#[]⟩ 0 (.mk 2 s 0 [] 0 :: treeL l) 0 := by unfold treeE; rw [if_neg (by decide), if_neg (by decide), if_neg (by decide)]
theorem read_col (s : ByteArray) (n a : Int) (l : List T) : readT (.mk 2 s n l a) = if nameB s then (.mk 1 s 0 [], 0, 0) else (zeroE, 20, a) := by unfold readT; rw [if_pos rfl]
theorem read_num (s : ByteArray) (n a : Int) (l : List T) : readT (.mk 3 s n l a) = (.mk 2 ⟨#[]⟩ n [], 0, 0) := by unfold readT; rw [if_neg (by decide), if_pos rfl]
theorem read_str (s : ByteArray) (n a : Int) (l : List T) : readT (.mk 4 s n l a) = (.mk 3 s 0 [], 0, 0) := by unfold readT; rw [if_neg (by decide), if_neg (by decide), if_pos rfl]
theorem read_app (s : ByteArray) (n a : Int) (x : T) (ks : List T) : readT (.mk 1 s n (x :: ks) a) = if x.k = 2 ∧ cntL x.s.toList ≠ 0 then
      (if ks.length = cntL x.s.toList then (if (readL ks).2.1 = 0 then (.mk 4 x.s 0 (readL ks).1, 0, 0) else (zeroE, (readL ks).2.1, (readL ks).2.2)) else (zeroE, 23, a)) else (zeroE, 12, a) := by
  unfold readT
  rw [if_neg (by decide), if_neg (by decide), if_neg (by decide), if_pos rfl]
theorem read_app_ok {s : ByteArray} {n a : Int} {x : T} {ks : List T} (h1 : x.k = 2) (h2 : cntL x.s.toList ≠ 0) (h3 : ks.length = cntL x.s.toList) (h4 : (readL ks).2.1 = 0) : readT (.mk 1 s n (x :: ks) a) = (.mk 4 x.s 0 (readL ks).1, 0, 0) := by
  rw [read_app, if_pos ⟨h1, h2⟩, if_pos h3, if_pos h4]
theorem read_none (s : ByteArray) (n a : Int) : readT (.mk 1 s n [] a) = (zeroE, 12, a) := by
  unfold readT
  rw [if_neg (by decide), if_neg (by decide), if_neg (by decide), if_pos rfl]
theorem read_bad {k : Int} (h1 : k ≠ 1) (h2 : k ≠ 2) (h3 : k ≠ 3) (h4 : k ≠ 4) (s : ByteArray) (n a : Int) (l : List T) : readT (.mk k s n l a) = (zeroE, 12, a) := by
  unfold readT
  rw [if_neg h2, if_neg h3, if_neg h4, if_neg h1]
theorem back_any : ∀ t, BackT t := T.ind (fun k s n l a ih => by
  intro h
  by_cases h2 : k = 2
  · subst h2
    by_cases hn : nameB s = true
    · rw [read_col, if_pos hn]
      refine ⟨?_, ?_, .col s hn⟩
      · rw [tree_col]; unfold canT; rw [if_pos rfl]
      · rw [tree_col, read_col, if_pos hn]
    · rw [read_col, if_neg hn] at h
      simp at h
  · by_cases h3 : k = 3
    · subst h3
      rw [read_num]
      refine ⟨?_, ?_, .num n⟩
      · rw [tree_num]; unfold canT; rw [if_neg (by decide), if_pos rfl]
      · rw [tree_num, read_num]
    · by_cases h4 : k = 4
      · subst h4
        rw [read_str]
        refine ⟨?_, ?_, .str s⟩
        · rw [tree_str]; unfold canT; rw [if_neg (by decide), if_neg (by decide), if_pos rfl]
        · rw [tree_str, read_str]
      · by_cases h1 : k = 1
        · subst h1
          cases l with
          | nil => rw [read_none] at h; simp at h
          | cons x ks =>
            rw [read_app] at h
            by_cases hx : x.k = 2 ∧ cntL x.s.toList ≠ 0
            · rw [if_pos hx] at h
              by_cases hl : ks.length = cntL x.s.toList
              · rw [if_pos hl] at h
                by_cases hr : (readL ks).2.1 = 0
                · obtain ⟨g1, g2, g3, g4⟩ := back_list ks (fun t ht => ih t (List.mem_cons_of_mem _ ht)) hr
                  rw [read_app, if_pos hx, if_pos hl, if_pos hr]
                  refine ⟨?_, ?_, .app x.s _ hx.2 (by rw [g4]; exact hl) g3⟩
                  · rw [tree_app]
                    obtain ⟨xk, xs, xn, xl, xa⟩ := x
                    simp only [T.k, T.s] at hx ⊢
                    unfold canT
                    rw [if_neg (by decide), if_neg (by decide), if_neg (by decide)]
                    unfold canL canT
                    rw [if_pos hx.1, g1]
                  · obtain ⟨xk, xs, xn, xl, xa⟩ := x
                    rw [tree_app]
                    have := read_app_ok (s := ⟨#[]⟩) (n := 0) (a := 0) (x := T.mk 2 xs 0 [] 0) (ks := treeL (readL ks).1) rfl hx.2 (by rw [treeL_length, g4]; exact hl) (by rw [g2])
                    rw [g2] at this
                    exact this
                · rw [if_neg hr] at h
                  exact absurd h hr
              · rw [if_neg hl] at h
                simp at h
            · rw [if_neg hx] at h
              simp at h
        · rw [read_bad h1 h2 h3 h4] at h
          simp at h)
end Go.Proofs.YtldleckgkgeclaaDoor
/-
  An expression that was read can be made. No program in sight.
-/
namespace Go.Proofs.YtldleckgkgeclaaDoor
open Go.RowKit
theorem MadeE.ok {e : E} (h : MadeE e) : madeE e = true := by
  induction h with
  | col s h => rw [madeE, if_pos rfl, h]; rfl
  | num n => rw [madeE, if_neg (by decide), if_pos rfl]; kernel_rfl
  | str s => rw [madeE, if_neg (by decide), if_neg (by decide), if_pos rfl]; rfl
  | app s l h0 hl hk ih =>
    rw [madeE, if_neg (by decide), if_neg (by decide), if_neg (by decide), if_pos rfl, madeL_all l, List.all_eq_true.2 ih]
    have h1 : decide (0 < cntL s.toList) = true := decide_eq_true (by omega)
    rw [h1, hl]
    simp
end Go.Proofs.YtldleckgkgeclaaDoor
