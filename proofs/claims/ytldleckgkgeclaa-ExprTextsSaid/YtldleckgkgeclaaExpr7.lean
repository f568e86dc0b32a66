/-
  Package expr's contracts: operate.
-/
import Derived.Test.YtldleckgkgeclaaExpr6
namespace Go.Proofs.Ytldleckgkgeclaa
open Go.RowKit
@[go_sem] theorem guard_value_ (op : BinOp) (x y : Operand) (xs ys : Array Value) (w : World) : (eqGuard op 29 x y (.agg xs) (.agg ys)).run Try.prog w = .ok () w := run_eqGuard_agg w op _ x y xs ys (by kernel_rfl)
theorem eql_value_ (xk xn yk yn : Int) (xs ys : ByteArray) (w : World) :
    (binOp .eql 29 (.agg #[.int .i64 xk, .int .i64 xn, .string xs]) (.agg #[.int .i64 yk, .int .i64 yn, .string ys])).run Try.prog w = .ok (.bool (xk == yk && (xn == yn && xs.toList == ys.toList))) w := by
  have hS : Try.prog.underlying 29 = some (.struct (Try.prog.fieldsOf 29)) := by kernel_rfl
  have hp : Try.prog.stoodInHeld 29 = false := by kernel_rfl
  have u1 := Try.underlying3
  have u2 := Try.underlying2
  have u3 := Try.underlying9
  rw [run_eql_struct, show (10000 : Nat) = 9999 + 1 from rfl, run_equalIn_agg w 9999 _ _ _ hS hp]
  simp only [Program.fieldsOf, Try.underlying29]
  go_simp
  by_cases h1 : xk = yk <;> by_cases h2 : xn = yn <;> by_cases h3 : xs.toList = ys.toList <;> simp [h1, h2, h3]
theorem set3c {w : World} {g k : Nat} {a b c u : Value} {t : TypeId} (h : w.heap[g]? = some (.cells #[a, b, c] t (0, 0))) : (w.setCell ⟨g, k, none⟩ u).heap[g]? = some (.cells (#[a, b, c].set! k u) t (0, 0)) := by
  show (w.heap.modify g _)[g]? = _
  rw [Array.getElem?_modify]
  simp [h]
/-- a value stored into a box of the call's own -/
def put3 (w : World) (p : Nat) (x0 x1 x2 : Value) : World := ((w.setCell ⟨p, 0, none⟩ x0).setCell ⟨p, 1, none⟩ x1).setCell ⟨p, 2, none⟩ x2
theorem put3_block {w : World} {p : Nat} {a b c x0 x1 x2 : Value} {t : TypeId} (h : w.heap[p]? = some (.cells #[a, b, c] t (0, 0))) : (put3 w p x0 x1 x2).heap[p]? = some (.cells #[x0, x1, x2] t (0, 0)) :=
  set3c (k := 2) (set3c (k := 1) (set3c (k := 0) h))
theorem put3_below {w a : World} {p B : Nat} {x0 x1 x2 : Value} (h : Below B a w) (hp : B ≤ p) : Below B a (put3 w p x0 x1 x2) :=
  ((h.setCell (p := ⟨p, 0, none⟩) hp x0).setCell (p := ⟨p, 1, none⟩) hp x1).setCell (p := ⟨p, 2, none⟩) hp x2
theorem cell3 {w : World} {g : Nat} {a b c : Value} {t : TypeId} (h : w.heap[g]? = some (.cells #[a, b, c] t (0, 0))) :
    (w.cell? ⟨g, 0, none⟩ = some a ∧ w.cell? ⟨g, 1, none⟩ = some b ∧ w.cell? ⟨g, 2, none⟩ = some c) ∧ w.frozen? ⟨g, 0, none⟩ = false ∧ w.frozen? ⟨g, 1, none⟩ = false ∧ w.frozen? ⟨g, 2, none⟩ = false := by
  simp [World.cell?, World.frozen?, h]
/-- a value in a cell, and a number: what is returned -/
theorem results_two {fn : Func} {p q : Tmp} (h : fn.results = #[.cell p 29, .tmp q]) {tmps : Array Value} {w : World} {g : Nat} {x0 x1 x2 u : Value} {t : TypeId}
    (hp : tmps.getD p undef = .pointer (some ⟨g, 0, none⟩)) (hq : tmps.getD q undef = u) (hg : w.heap[g]? = some (.cells #[x0, x1, x2] t (0, 0))) : (results fn tmps).run Try.prog w = .ok (.tuple #[.agg #[x0, x1, x2], u]) w := by
  have hp' : tmps[p]?.getD undef = .pointer (some ⟨g, 0, none⟩) := by simpa using hp
  have hq' : tmps[q]?.getD undef = u := by simpa using hq
  have hl := run_loadVar_row (P := Try.prog) w g t 29 #[x0, x1, x2] (0, 0) _ hg Try.underlying29 rfl (by show _ = some 3; kernel_rfl)
  simp [results, h, hp', hq', asAddr, hl]

set_option maxRecDepth 100000 in
set_option maxHeartbeats 2000000 in
theorem operate_1 (b o c : Nat) (op : ByteArray) (xk xn : Int) (xs : ByteArray) (hx1 : -9223372036854775808 ≤ xn) (hx2 : xn ≤ 9223372036854775807) (hop : op.toList = opNot ∨ op.toList = opLen ∨ op.toList = opNeg) (hxs : xs.size ≤ 1048576) (w : World) (hb : b < w.heap.size)
    (c0 : w.cell? ⟨b, o, none⟩ = some (.int .i64 xk)) (c1 : w.cell? ⟨b, o + 1, none⟩ = some (.int .i64 xn)) (c2 : w.cell? ⟨b, o + 2, none⟩ = some (.string xs)) :
    Calls Try.prog 84 #[.string op, .slice (some ⟨b, o, none⟩) 1 c] w fun e w' =>
      e = .returned (.tuple #[.agg #[.int .i64 (operateL op.toList ⟨xk, xn, xs⟩ ⟨xk, xn, xs⟩).1.k, .int .i64 (operateL op.toList ⟨xk, xn, xs⟩ ⟨xk, xn, xs⟩).1.n, .string (operateL op.toList ⟨xk, xn, xs⟩ ⟨xk, xn, xs⟩).1.s], .int .i64 (operateL op.toList ⟨xk, xn, xs⟩ ⟨xk, xn, xs⟩).2]) ∧ Below w.heap.size w w' := by
  have hx0 : (0 : Int) < 1 := by omega
  have hxl : (0 : Int) < 1 := by omega
  have hnl : ((1 : Nat) : Int) - 1 = 0 := by omega
  obtain ⟨w3, ew3⟩ : ∃ w3, w3 = ((w.alloc (.cells #[.int .i64 0, .int .i64 0, .string ⟨#[]⟩] 29)).alloc (.cells #[.int .i64 xk, .int .i64 xn, .string xs] 29)).alloc (.cells #[.int .i64 xk, .int .i64 xn, .string xs] 29) := ⟨_, rfl⟩
  have HB3 : Hid (Below w.heap.size w w3) := Lib.hid (by rw [ew3]; exact (((Below.refl _ _).alloc (Nat.le_refl _) _).alloc (by simp) _).alloc (by simp; omega) _)
  have hws : w3.heap.size = w.heap.size + 3 := by rw [ew3]; simp
  have hB : Hid (w3.heap[w.heap.size]? = some (.cells #[.int .i64 0, .int .i64 0, .string ⟨#[]⟩] 29 (0, 0))) := Lib.hid (by
    rw [ew3, Below.heap_alloc _ _ _ (by simp; omega), Below.heap_alloc _ _ _ (by simp)]
    exact heap_alloc_new w _)
  have HW3 := Lib.hid ew3
  obtain ⟨V0, hV⟩ : ∃ V0, V0 = operateL op.toList ⟨xk, xn, xs⟩ ⟨xk, xn, xs⟩ := ⟨_, rfl⟩
  have HV := Lib.hid hV
  rw [← hV]
  clear hV ew3
  rcases hop with hop | hop | hop
  · have HV2 : Hid (V0 = (truthV (xn == 0), 0)) := Lib.hid (by rw [HV.out]; unfold operateL; simp [hop, opEq, opLt, opAnd, opOr, opNot, opLen, opCat, opNeg]; try rfl)
    clear HV
    simp only [opNot] at hop
    have ht := Lib.hid (truth_any (xn == 0) w3)
    go_enter Try.func84, Try.ntmps84
    go_wp2_with fail
    rw [← HW3.out]
    refine (ht.out).mono ?_
    rintro e w4 ⟨rfl, hb4⟩
    have hs4 := hb4.size
    have HB4 : Hid (w4.heap[w.heap.size]? = some (.cells #[.int .i64 0, .int .i64 0, .string ⟨#[]⟩] 29 (0, 0))) := Lib.hid ((hb4.block _ (by omega)).trans hB.out)
    have HBW := Lib.hid (HB3.out.trans (hb4.mono (by omega)))
    obtain ⟨⟨k0, k1, k2⟩, f0, f1, f2⟩ := cell3 HB4.out
    clear hb4 ht
    go_wp2_with fail
    refine bodyPost_ret (results_two rfl rfl rfl (put3_block HB4.out)) rfl ?_
    exact ⟨by rw [HV2.out]; rfl, put3_below HBW.out (Nat.le_refl _)⟩
  · have HV2 : Hid (V0 = (numV xs.size, 0)) := Lib.hid (by rw [HV.out]; unfold operateL; simp [hop, opEq, opLt, opAnd, opOr, opNot, opLen, opCat, opNeg]; try rfl)
    clear HV
    simp only [opLen] at hop
    have ht := Lib.hid (value_num xs.size w3)
    go_enter Try.func84, Try.ntmps84
    go_wp2_with fail
    rw [← HW3.out]
    refine (ht.out).mono ?_
    rintro e w4 ⟨rfl, hw4⟩
    have hb4 : Below w3.heap.size w3 w4 := by rw [← hw4]; exact (Below.refl _ _).alloc (Nat.le_refl _) _
    clear hw4
    have hs4 := hb4.size
    have HB4 : Hid (w4.heap[w.heap.size]? = some (.cells #[.int .i64 0, .int .i64 0, .string ⟨#[]⟩] 29 (0, 0))) := Lib.hid ((hb4.block _ (by omega)).trans hB.out)
    have HBW := Lib.hid (HB3.out.trans (hb4.mono (by omega)))
    obtain ⟨⟨k0, k1, k2⟩, f0, f1, f2⟩ := cell3 HB4.out
    clear hb4 ht
    go_wp2_with fail
    refine bodyPost_ret (results_two rfl rfl rfl (put3_block HB4.out)) rfl ?_
    exact ⟨by rw [HV2.out]; rfl, put3_below HBW.out (Nat.le_refl _)⟩
  · have hr := Lib.hid (reckon_any op xn xn hx1 hx2 hx1 hx2 w3)
    have HV2 : Hid (V0 = if (reckonL op.toList xn xn).2 then (numV (reckonL op.toList xn xn).1, 0) else (zeroV, 26)) := Lib.hid (by rw [HV.out]; unfold operateL; simp [hop, opEq, opLt, opAnd, opOr, opNot, opLen, opCat, opNeg])
    generalize reckonL op.toList xn xn = rr at *
    obtain ⟨rn, rb⟩ := rr
    simp only at hr HV2
    clear HV 
    simp only [opNeg] at hop
    cases rb
    · have HV3 : Hid (V0 = (zeroV, 26)) := Lib.hid (by rw [HV2.out]; rfl)
      clear HV2
      go_enter Try.func84, Try.ntmps84
      go_wp2_with fail
      rw [← HW3.out]
      refine (hr.out).mono ?_
      rintro e w4 ⟨rfl, rfl⟩
      obtain ⟨⟨k0, k1, k2⟩, f0, f1, f2⟩ := cell3 hB.out
      go_wp2_with fail
      refine bodyPost_ret (results_two rfl rfl rfl (put3_block hB.out)) rfl ?_
      exact ⟨by rw [HV3.out]; rfl, put3_below HB3.out (Nat.le_refl _)⟩
    · have HV3 : Hid (V0 = (numV rn, 0)) := Lib.hid (by rw [HV2.out]; rfl)
      have ht := Lib.hid (value_num rn w3)
      clear HV2
      go_enter Try.func84, Try.ntmps84
      go_wp2_with fail
      rw [← HW3.out]
      refine (hr.out).mono ?_
      rintro e w5 ⟨rfl, rfl⟩
      go_wp2_with fail
      refine (ht.out).mono ?_
      rintro e w4 ⟨rfl, hw4⟩
      have hb4 : Below w3.heap.size w3 w4 := by rw [← hw4]; exact (Below.refl _ _).alloc (Nat.le_refl _) _
      clear hw4
      have hs4 := hb4.size
      have HB4 : Hid (w4.heap[w.heap.size]? = some (.cells #[.int .i64 0, .int .i64 0, .string ⟨#[]⟩] 29 (0, 0))) := Lib.hid ((hb4.block _ (by omega)).trans hB.out)
      have HBW := Lib.hid (HB3.out.trans (hb4.mono (by omega)))
      obtain ⟨⟨k0, k1, k2⟩, f0, f1, f2⟩ := cell3 HB4.out
      clear hb4 ht
      go_wp2_with fail
      refine bodyPost_ret (results_two rfl rfl rfl (put3_block HB4.out)) rfl ?_
      exact ⟨by rw [HV3.out]; rfl, put3_below HBW.out (Nat.le_refl _)⟩

set_option maxRecDepth 100000 in
set_option maxHeartbeats 2000000 in
theorem operate_2 (b o c : Nat) (op : ByteArray) (xk xn : Int) (xs : ByteArray) (yk yn : Int) (ys : ByteArray) (hx1 : -9223372036854775808 ≤ xn) (hx2 : xn ≤ 9223372036854775807) (hxs : xs.size ≤ 1048576) (hy1 : -9223372036854775808 ≤ yn) (hy2 : yn ≤ 9223372036854775807) (hys : ys.size ≤ 1048576) (w : World) (hb : b < w.heap.size)
    (c0 : w.cell? ⟨b, o, none⟩ = some (.int .i64 xk)) (c1 : w.cell? ⟨b, o + 1, none⟩ = some (.int .i64 xn)) (c2 : w.cell? ⟨b, o + 2, none⟩ = some (.string xs))
    (d0 : w.cell? ⟨b, o + 3, none⟩ = some (.int .i64 yk)) (d1 : w.cell? ⟨b, o + 3 + 1, none⟩ = some (.int .i64 yn)) (d2 : w.cell? ⟨b, o + 3 + 2, none⟩ = some (.string ys)) :
    Calls Try.prog 84 #[.string op, .slice (some ⟨b, o, none⟩) 2 c] w fun e w' =>
      e = .returned (.tuple #[.agg #[.int .i64 (operateL op.toList ⟨xk, xn, xs⟩ ⟨yk, yn, ys⟩).1.k, .int .i64 (operateL op.toList ⟨xk, xn, xs⟩ ⟨yk, yn, ys⟩).1.n, .string (operateL op.toList ⟨xk, xn, xs⟩ ⟨yk, yn, ys⟩).1.s], .int .i64 (operateL op.toList ⟨xk, xn, xs⟩ ⟨yk, yn, ys⟩).2]) ∧ Below w.heap.size w w' := by
  have hx0 : (0 : Int) < 2 := by omega
  have hxl : (1 : Int) < 2 := by omega
  have hnl : ((2 : Nat) : Int) - 1 = 1 := by omega
  obtain ⟨w3, ew3⟩ : ∃ w3, w3 = ((w.alloc (.cells #[.int .i64 0, .int .i64 0, .string ⟨#[]⟩] 29)).alloc (.cells #[.int .i64 xk, .int .i64 xn, .string xs] 29)).alloc (.cells #[.int .i64 yk, .int .i64 yn, .string ys] 29) := ⟨_, rfl⟩
  have HB3 : Hid (Below w.heap.size w w3) := Lib.hid (by rw [ew3]; exact (((Below.refl _ _).alloc (Nat.le_refl _) _).alloc (by simp) _).alloc (by simp; omega) _)
  have hws : w3.heap.size = w.heap.size + 3 := by rw [ew3]; simp
  have hB : Hid (w3.heap[w.heap.size]? = some (.cells #[.int .i64 0, .int .i64 0, .string ⟨#[]⟩] 29 (0, 0))) := Lib.hid (by
    rw [ew3, Below.heap_alloc _ _ _ (by simp; omega), Below.heap_alloc _ _ _ (by simp)]
    exact heap_alloc_new w _)
  have HW3 := Lib.hid ew3
  obtain ⟨V0, hV⟩ : ∃ V0, V0 = operateL op.toList ⟨xk, xn, xs⟩ ⟨yk, yn, ys⟩ := ⟨_, rfl⟩
  have HV := Lib.hid hV
  rw [← hV]
  clear hV ew3
  by_cases q0 : op.toList = opEq
  · have HV2 : Hid (V0 = (truthV (V.eqv ⟨xk, xn, xs⟩ ⟨yk, yn, ys⟩), 0)) := Lib.hid (by rw [HV.out]; unfold operateL; rw [if_pos q0]; try rfl)
    have hq : Hid (V.eqv ⟨xk, xn, xs⟩ ⟨yk, yn, ys⟩ = (xk == yk && (xn == yn && xs.toList == ys.toList))) := Lib.hid rfl
    generalize V.eqv ⟨xk, xn, xs⟩ ⟨yk, yn, ys⟩ = qq at *
    clear HV 
    simp only [opEq] at q0
    have ht := Lib.hid (truth_any qq w3)
    have heq : ∀ w, (binOp .eql 29 (.agg #[.int .i64 xk, .int .i64 xn, .string xs]) (.agg #[.int .i64 yk, .int .i64 yn, .string ys])).run Try.prog w = .ok (.bool qq) w := fun w => by rw [eql_value_, ← hq.out]
    clear hq
    go_enter Try.func84, Try.ntmps84
    go_wp2_with fail
    rw [← HW3.out]
    refine (ht.out).mono ?_
    rintro e w4 ⟨rfl, hb4⟩
    have hs4 := hb4.size
    have HB4 : Hid (w4.heap[w.heap.size]? = some (.cells #[.int .i64 0, .int .i64 0, .string ⟨#[]⟩] 29 (0, 0))) := Lib.hid ((hb4.block _ (by omega)).trans hB.out)
    have HBW := Lib.hid (HB3.out.trans (hb4.mono (by omega)))
    obtain ⟨⟨k0, k1, k2⟩, f0, f1, f2⟩ := cell3 HB4.out
    clear hb4 ht
    go_wp2_with fail
    refine bodyPost_ret (results_two rfl rfl rfl (put3_block HB4.out)) rfl ?_
    exact ⟨by rw [HV2.out]; rfl, put3_below HBW.out (Nat.le_refl _)⟩
  have e0 : (op.toList == [101, 113]) = false := by simpa [opEq] using q0
  by_cases q1 : op.toList = opLt
  · have HV2 : Hid (V0 = (truthV (V.lt ⟨xk, xn, xs⟩ ⟨yk, yn, ys⟩), 0)) := Lib.hid (by rw [HV.out]; unfold operateL; rw [if_neg q0]; rw [if_pos q1]; try rfl)
    have hq := Lib.hid (value_less xk xn xs yk yn ys w3)
    generalize V.lt ⟨xk, xn, xs⟩ ⟨yk, yn, ys⟩ = qq at *
    clear HV q0
    simp only [opLt] at q1
    go_enter Try.func84, Try.ntmps84
    go_wp2_with fail
    rw [← HW3.out]
    refine (hq.out).mono ?_
    rintro e w5 ⟨rfl, hb5⟩
    have hs5 := hb5.size
    have HB5 := Lib.hid hb5
    clear hb5 hq
    go_wp2_with fail
    refine (truth_any qq _).mono ?_
    rintro e w4 ⟨rfl, hb4x⟩
    have hb4 := HB5.out.trans (hb4x.mono hs5)
    have hs4 := hb4.size
    have HB4 : Hid (w4.heap[w.heap.size]? = some (.cells #[.int .i64 0, .int .i64 0, .string ⟨#[]⟩] 29 (0, 0))) := Lib.hid ((hb4.block _ (by omega)).trans hB.out)
    have HBW := Lib.hid (HB3.out.trans (hb4.mono (by omega)))
    obtain ⟨⟨k0, k1, k2⟩, f0, f1, f2⟩ := cell3 HB4.out
    clear hb4 hb4x
    go_wp2_with fail
    refine bodyPost_ret (results_two rfl rfl rfl (put3_block HB4.out)) rfl ?_
    exact ⟨by rw [HV2.out]; rfl, put3_below HBW.out (Nat.le_refl _)⟩
  have e1 : (op.toList == [108, 116]) = false := by simpa [opLt] using q1
  by_cases q2 : op.toList = opAnd
  · have HV2 : Hid (V0 = (truthV (xn != 0 && yn != 0), 0)) := Lib.hid (by rw [HV.out]; unfold operateL; rw [if_neg q0]; rw [if_neg q1]; rw [if_pos q2]; try rfl)
    clear HV q0 q1
    simp only [opAnd] at q2
    cases hz : (xn != 0)
    · have HV3 : Hid (V0 = (truthV false, 0)) := Lib.hid (by rw [HV2.out, hz]; rfl)
      have ht := Lib.hid (truth_any false w3)
      clear HV2
      go_enter Try.func84, Try.ntmps84
      go_wp2_with fail
      rw [← HW3.out]
      refine (ht.out).mono ?_
      rintro e w4 ⟨rfl, hb4⟩
      have hs4 := hb4.size
      have HB4 : Hid (w4.heap[w.heap.size]? = some (.cells #[.int .i64 0, .int .i64 0, .string ⟨#[]⟩] 29 (0, 0))) := Lib.hid ((hb4.block _ (by omega)).trans hB.out)
      have HBW := Lib.hid (HB3.out.trans (hb4.mono (by omega)))
      obtain ⟨⟨k0, k1, k2⟩, f0, f1, f2⟩ := cell3 HB4.out
      clear hb4 ht
      go_wp2_with fail
      refine bodyPost_ret (results_two rfl rfl rfl (put3_block HB4.out)) rfl ?_
      exact ⟨by rw [HV3.out]; rfl, put3_below HBW.out (Nat.le_refl _)⟩
    · have HV3 : Hid (V0 = (truthV (yn != 0), 0)) := Lib.hid (by rw [HV2.out, hz]; rfl)
      have ht := Lib.hid (truth_any (yn != 0) w3)
      clear HV2
      go_enter Try.func84, Try.ntmps84
      go_wp2_with fail
      rw [← HW3.out]
      refine (ht.out).mono ?_
      rintro e w4 ⟨rfl, hb4⟩
      have hs4 := hb4.size
      have HB4 : Hid (w4.heap[w.heap.size]? = some (.cells #[.int .i64 0, .int .i64 0, .string ⟨#[]⟩] 29 (0, 0))) := Lib.hid ((hb4.block _ (by omega)).trans hB.out)
      have HBW := Lib.hid (HB3.out.trans (hb4.mono (by omega)))
      obtain ⟨⟨k0, k1, k2⟩, f0, f1, f2⟩ := cell3 HB4.out
      clear hb4 ht
      go_wp2_with fail
      refine bodyPost_ret (results_two rfl rfl rfl (put3_block HB4.out)) rfl ?_
      exact ⟨by rw [HV3.out]; rfl, put3_below HBW.out (Nat.le_refl _)⟩
  have e2 : (op.toList == [97, 110, 100]) = false := by simpa [opAnd] using q2
  by_cases q3 : op.toList = opOr
  · have HV2 : Hid (V0 = (truthV (xn != 0 || yn != 0), 0)) := Lib.hid (by rw [HV.out]; unfold operateL; rw [if_neg q0]; rw [if_neg q1]; rw [if_neg q2]; rw [if_pos q3]; try rfl)
    clear HV q0 q1 q2
    simp only [opOr] at q3
    cases hz : (xn != 0)
    · have HV3 : Hid (V0 = (truthV (yn != 0), 0)) := Lib.hid (by rw [HV2.out, hz]; rfl)
      have ht := Lib.hid (truth_any (yn != 0) w3)
      clear HV2
      go_enter Try.func84, Try.ntmps84
      go_wp2_with fail
      rw [← HW3.out]
      refine (ht.out).mono ?_
      rintro e w4 ⟨rfl, hb4⟩
      have hs4 := hb4.size
      have HB4 : Hid (w4.heap[w.heap.size]? = some (.cells #[.int .i64 0, .int .i64 0, .string ⟨#[]⟩] 29 (0, 0))) := Lib.hid ((hb4.block _ (by omega)).trans hB.out)
      have HBW := Lib.hid (HB3.out.trans (hb4.mono (by omega)))
      obtain ⟨⟨k0, k1, k2⟩, f0, f1, f2⟩ := cell3 HB4.out
      clear hb4 ht
      go_wp2_with fail
      refine bodyPost_ret (results_two rfl rfl rfl (put3_block HB4.out)) rfl ?_
      exact ⟨by rw [HV3.out]; rfl, put3_below HBW.out (Nat.le_refl _)⟩
    · have HV3 : Hid (V0 = (truthV true, 0)) := Lib.hid (by rw [HV2.out, hz]; rfl)
      have ht := Lib.hid (truth_any true w3)
      clear HV2
      go_enter Try.func84, Try.ntmps84
      go_wp2_with fail
      rw [← HW3.out]
      refine (ht.out).mono ?_
      rintro e w4 ⟨rfl, hb4⟩
      have hs4 := hb4.size
      have HB4 : Hid (w4.heap[w.heap.size]? = some (.cells #[.int .i64 0, .int .i64 0, .string ⟨#[]⟩] 29 (0, 0))) := Lib.hid ((hb4.block _ (by omega)).trans hB.out)
      have HBW := Lib.hid (HB3.out.trans (hb4.mono (by omega)))
      obtain ⟨⟨k0, k1, k2⟩, f0, f1, f2⟩ := cell3 HB4.out
      clear hb4 ht
      go_wp2_with fail
      refine bodyPost_ret (results_two rfl rfl rfl (put3_block HB4.out)) rfl ?_
      exact ⟨by rw [HV3.out]; rfl, put3_below HBW.out (Nat.le_refl _)⟩
  have e3 : (op.toList == [111, 114]) = false := by simpa [opOr] using q3
  by_cases q4 : op.toList = opNot
  · have HV2 : Hid (V0 = (truthV (xn == 0), 0)) := Lib.hid (by rw [HV.out]; unfold operateL; rw [if_neg q0]; rw [if_neg q1]; rw [if_neg q2]; rw [if_neg q3]; rw [if_pos q4]; try rfl)
    clear HV q0 q1 q2 q3
    simp only [opNot] at q4
    have ht := Lib.hid (truth_any (xn == 0) w3)
    go_enter Try.func84, Try.ntmps84
    go_wp2_with fail
    rw [← HW3.out]
    refine (ht.out).mono ?_
    rintro e w4 ⟨rfl, hb4⟩
    have hs4 := hb4.size
    have HB4 : Hid (w4.heap[w.heap.size]? = some (.cells #[.int .i64 0, .int .i64 0, .string ⟨#[]⟩] 29 (0, 0))) := Lib.hid ((hb4.block _ (by omega)).trans hB.out)
    have HBW := Lib.hid (HB3.out.trans (hb4.mono (by omega)))
    obtain ⟨⟨k0, k1, k2⟩, f0, f1, f2⟩ := cell3 HB4.out
    clear hb4 ht
    go_wp2_with fail
    refine bodyPost_ret (results_two rfl rfl rfl (put3_block HB4.out)) rfl ?_
    exact ⟨by rw [HV2.out]; rfl, put3_below HBW.out (Nat.le_refl _)⟩
  have e4 : (op.toList == [110, 111, 116]) = false := by simpa [opNot] using q4
  by_cases q5 : op.toList = opLen
  · have HV2 : Hid (V0 = (numV xs.size, 0)) := Lib.hid (by rw [HV.out]; unfold operateL; rw [if_neg q0]; rw [if_neg q1]; rw [if_neg q2]; rw [if_neg q3]; rw [if_neg q4]; rw [if_pos q5]; try rfl)
    clear HV q0 q1 q2 q3 q4
    simp only [opLen] at q5
    have ht := Lib.hid (value_num xs.size w3)
    go_enter Try.func84, Try.ntmps84
    go_wp2_with fail
    rw [← HW3.out]
    refine (ht.out).mono ?_
    rintro e w4 ⟨rfl, hw4⟩
    have hb4 : Below w3.heap.size w3 w4 := by rw [← hw4]; exact (Below.refl _ _).alloc (Nat.le_refl _) _
    clear hw4
    have hs4 := hb4.size
    have HB4 : Hid (w4.heap[w.heap.size]? = some (.cells #[.int .i64 0, .int .i64 0, .string ⟨#[]⟩] 29 (0, 0))) := Lib.hid ((hb4.block _ (by omega)).trans hB.out)
    have HBW := Lib.hid (HB3.out.trans (hb4.mono (by omega)))
    obtain ⟨⟨k0, k1, k2⟩, f0, f1, f2⟩ := cell3 HB4.out
    clear hb4 ht
    go_wp2_with fail
    refine bodyPost_ret (results_two rfl rfl rfl (put3_block HB4.out)) rfl ?_
    exact ⟨by rw [HV2.out]; rfl, put3_below HBW.out (Nat.le_refl _)⟩
  have e5 : (op.toList == [108, 101, 110]) = false := by simpa [opLen] using q5
  by_cases q6 : op.toList = opCat
  · by_cases hbig : 40 < xs.size + ys.size
    · have HV2 : Hid (V0 = (zeroV, 3)) := Lib.hid (by rw [HV.out]; unfold operateL; rw [if_neg q0]; rw [if_neg q1]; rw [if_neg q2]; rw [if_neg q3]; rw [if_neg q4]; rw [if_neg q5]; rw [if_pos q6]; rw [if_pos hbig])
      clear HV q0 q1 q2 q3 q4 q5
      simp only [opCat] at q6
      have hbig' : (40 : Int) < (xs.size : Int) + (ys.size : Int) := by omega
      go_enter Try.func84, Try.ntmps84
      go_wp2_with fail
      rw [← HW3.out]
      go_wp2_with fail
      refine bodyPost_ret (results_two rfl rfl rfl hB.out) rfl ?_
      exact ⟨by rw [HV2.out]; rfl, HB3.out⟩
    · have HV2 : Hid (V0 = (strV (xs ++ ys), 0)) := Lib.hid (by rw [HV.out]; unfold operateL; rw [if_neg q0]; rw [if_neg q1]; rw [if_neg q2]; rw [if_neg q3]; rw [if_neg q4]; rw [if_neg q5]; rw [if_pos q6]; rw [if_neg hbig])
      clear HV q0 q1 q2 q3 q4 q5
      simp only [opCat] at q6
      have hbig' : ¬ (40 : Int) < (xs.size : Int) + (ys.size : Int) := by omega
      have ht := Lib.hid (value_str (xs ++ ys) w3)
      go_enter Try.func84, Try.ntmps84
      go_wp2_with fail
      rw [← HW3.out]
      refine (ht.out).mono ?_
      rintro e w4 ⟨rfl, hw4⟩
      have hb4 : Below w3.heap.size w3 w4 := by rw [← hw4]; exact (Below.refl _ _).alloc (Nat.le_refl _) _
      clear hw4
      have hs4 := hb4.size
      have HB4 : Hid (w4.heap[w.heap.size]? = some (.cells #[.int .i64 0, .int .i64 0, .string ⟨#[]⟩] 29 (0, 0))) := Lib.hid ((hb4.block _ (by omega)).trans hB.out)
      have HBW := Lib.hid (HB3.out.trans (hb4.mono (by omega)))
      obtain ⟨⟨k0, k1, k2⟩, f0, f1, f2⟩ := cell3 HB4.out
      clear hb4 ht
      go_wp2_with fail
      refine bodyPost_ret (results_two rfl rfl rfl (put3_block HB4.out)) rfl ?_
      exact ⟨by rw [HV2.out]; rfl, put3_below HBW.out (Nat.le_refl _)⟩
  have e6 : (op.toList == [99, 97, 116]) = false := by simpa [opCat] using q6
  have hr := Lib.hid (reckon_any op xn yn hx1 hx2 hy1 hy2 w3)
  have HV2 : Hid (V0 = if (reckonL op.toList xn yn).2 then (numV (reckonL op.toList xn yn).1, 0) else (zeroV, 26)) := Lib.hid (by rw [HV.out]; unfold operateL; rw [if_neg q0]; rw [if_neg q1]; rw [if_neg q2]; rw [if_neg q3]; rw [if_neg q4]; rw [if_neg q5]; rw [if_neg q6])
  generalize reckonL op.toList xn yn = rr at *
  obtain ⟨rn, rb⟩ := rr
  simp only at hr HV2
  clear HV q0 q1 q2 q3 q4 q5 q6
  cases rb
  · have HV3 : Hid (V0 = (zeroV, 26)) := Lib.hid (by rw [HV2.out]; rfl)
    clear HV2
    go_enter Try.func84, Try.ntmps84
    go_wp2_with fail
    rw [← HW3.out]
    refine (hr.out).mono ?_
    rintro e w4 ⟨rfl, rfl⟩
    obtain ⟨⟨k0, k1, k2⟩, f0, f1, f2⟩ := cell3 hB.out
    go_wp2_with fail
    refine bodyPost_ret (results_two rfl rfl rfl (put3_block hB.out)) rfl ?_
    exact ⟨by rw [HV3.out]; rfl, put3_below HB3.out (Nat.le_refl _)⟩
  · have HV3 : Hid (V0 = (numV rn, 0)) := Lib.hid (by rw [HV2.out]; rfl)
    have ht := Lib.hid (value_num rn w3)
    clear HV2
    go_enter Try.func84, Try.ntmps84
    go_wp2_with fail
    rw [← HW3.out]
    refine (hr.out).mono ?_
    rintro e w5 ⟨rfl, rfl⟩
    go_wp2_with fail
    refine (ht.out).mono ?_
    rintro e w4 ⟨rfl, hw4⟩
    have hb4 : Below w3.heap.size w3 w4 := by rw [← hw4]; exact (Below.refl _ _).alloc (Nat.le_refl _) _
    clear hw4
    have hs4 := hb4.size
    have HB4 : Hid (w4.heap[w.heap.size]? = some (.cells #[.int .i64 0, .int .i64 0, .string ⟨#[]⟩] 29 (0, 0))) := Lib.hid ((hb4.block _ (by omega)).trans hB.out)
    have HBW := Lib.hid (HB3.out.trans (hb4.mono (by omega)))
    obtain ⟨⟨k0, k1, k2⟩, f0, f1, f2⟩ := cell3 HB4.out
    clear hb4 ht
    go_wp2_with fail
    refine bodyPost_ret (results_two rfl rfl rfl (put3_block HB4.out)) rfl ?_
    exact ⟨by rw [HV3.out]; rfl, put3_below HBW.out (Nat.le_refl _)⟩
end Go.Proofs.Ytldleckgkgeclaa
