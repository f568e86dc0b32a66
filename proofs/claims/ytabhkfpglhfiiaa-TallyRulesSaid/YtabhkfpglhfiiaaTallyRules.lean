/-
  Tallies by their nets; the walk of TallyRules.
-/
import Derived.Test.YtabhkfpglhfiiaaTallyParts
namespace Go.Proofs.Ytabhkfpglhfiiaa
open Go.RowKit

/-- two words that are a right tally of the net n -/
def Tal (x y : Nat) (n : Int) : Prop := ∃ a b : Int, Fl.Reads x a ∧ Fl.Reads y b ∧ okT a b = true ∧ a - b = n
theorem Tal.bd {x y : Nat} {n : Int} (h : Tal x y n) : -1125899906842624 ≤ n ∧ n ≤ 1125899906842624 := by
  obtain ⟨a, b, _, _, h, rfl⟩ := h
  have := okT_bd h
  omega
theorem tal_of {a b : Int} (h1 : 0 ≤ a) (h2 : a ≤ 1125899906842624) (h3 : 0 ≤ b) (h4 : b ≤ 1125899906842624) : Tal (Fl.F a) (Fl.F b) (a - b) :=
  ⟨a, b, rd a, rd b, okT_of h1 h2 h3 h4, rfl⟩
theorem tal_red {n : Int} (h1 : -1125899906842624 ≤ n) (h2 : n ≤ 1125899906842624) : Tal (Fl.F (pos n)) (Fl.F (pos (-n))) n := by
  have e1 := pos_bd n
  have e2 := pos_bd (-n)
  have h := tal_of (a := pos n) (b := pos (-n)) (by omega) (by omega) (by omega) (by omega)
  rwa [show pos n - pos (-n) = n from by omega] at h
theorem Tal.flip {x y : Nat} {n : Int} (h : Tal x y n) : Tal y x (-n) := by
  obtain ⟨a, b, ha, hb, h, rfl⟩ := h
  have := okT_bd h
  exact ⟨b, a, hb, ha, okT_of (by omega) (by omega) (by omega) (by omega), by omega⟩
theorem netT_tal {a b : Int} (h : okT a b = true) : netT a b = a - b := by
  unfold netT; rw [h, sel_true]
theorem Tal.o1 {x y : Nat} {n : Int} (h : Tal x y n) : FloatKind.f64.format.order x x = some .eq := by
  obtain ⟨a, b, ha, hb, h, rfl⟩ := h; exact order_self ha
theorem Tal.o2 {x y : Nat} {n : Int} (h : Tal x y n) : FloatKind.f64.format.order y y = some .eq := by
  obtain ⟨a, b, ha, hb, h, rfl⟩ := h; exact order_self hb

theorem add_tal {x y u v : Nat} {n m r : Int} (h1 : Tal x y n) (h2 : Tal u v m) (hr : n + m = r) (b1 : -1125899906842624 ≤ r) (b2 : r ≤ 1125899906842624) (w : World) :
    Calls Try.prog 11 #[.complex .f64 x y, .complex .f64 u v] w fun e w' =>
      e = .returned (.tuple #[.complex .f64 (Fl.F (pos r)) (Fl.F (pos (-r))), .bool true]) ∧ w = w' := by
  obtain ⟨a, b, ha, hb, hab, rfl⟩ := h1
  obtain ⟨c, d, hc, hd, hcd, rfl⟩ := h2
  have := add_any ha hb hc hd w
  have e1 : addOk a b c d = true := by
    unfold addOk fitN
    rw [hab, hcd, netT_tal hab, netT_tal hcd, hr]
    simp [b1, b2]
  have e2 : addN a b c d = r := by
    unfold addN
    rw [e1, sel_true, netT_tal hab, netT_tal hcd, hr]
  rwa [e1, e2] at this
theorem times_tal {x y u v : Nat} {n m r : Int} (h1 : Tal x y n) (h2 : Tal u v m) (hr : n * m = r) (b1 : -1125899906842624 ≤ r) (b2 : r ≤ 1125899906842624) (w : World) :
    Calls Try.prog 12 #[.complex .f64 x y, .complex .f64 u v] w fun e w' =>
      e = .returned (.tuple #[.complex .f64 (Fl.F (pos r)) (Fl.F (pos (-r))), .bool true]) ∧ w = w' := by
  obtain ⟨a, b, ha, hb, hab, rfl⟩ := h1
  obtain ⟨c, d, hc, hd, hcd, rfl⟩ := h2
  have := times_yes ha hb hc hd w hab hcd
  unfold Timed at this
  have e1 : fitN r = true := by
    unfold fitN
    simp [b1, b2]
  rwa [netT_tal hab, netT_tal hcd, hr, e1, sel_true] at this
theorem net_tal {x y : Nat} {n : Int} (h1 : Tal x y n) (w : World) :
    Calls Try.prog 19 #[.complex .f64 x y] w fun e w' => e = .returned (.int .i64 n) ∧ w = w' := by
  obtain ⟨a, b, ha, hb, hab, rfl⟩ := h1
  have := net_any ha hb w
  rwa [netT_tal hab] at this
theorem reduce_tal {x y : Nat} {n : Int} (h1 : Tal x y n) (w : World) :
    Calls Try.prog 15 #[.complex .f64 x y] w fun e w' => e = .returned (.complex .f64 (Fl.F (pos n)) (Fl.F (pos (-n)))) ∧ w = w' := by
  obtain ⟨a, b, ha, hb, hab, rfl⟩ := h1
  have := reduce_any ha hb w
  rwa [netT_tal hab] at this
theorem flip_tal {x y : Nat} {n : Int} (h1 : Tal x y n) (w : World) :
    Calls Try.prog 16 #[.complex .f64 x y] w fun e w' => e = .returned (.complex .f64 y x) ∧ w = w' := by
  obtain ⟨a, b, ha, hb, hab, rfl⟩ := h1
  exact flip_yes ha hb hab w
theorem right_tal {x y : Nat} {n : Int} (h1 : Tal x y n) (w : World) :
    Calls Try.prog 14 #[.complex .f64 x y] w fun e w' => e = .returned (.bool true) ∧ w = w' := by
  obtain ⟨a, b, ha, hb, hab, rfl⟩ := h1
  have := right_any ha hb w
  rwa [show (okPart a && okPart b) = true from hab] at this

def Small (w : World) (e : Ending) (w' : World) : Prop := ∃ (x y : Nat) (n : Int), -1000 ≤ n ∧ n ≤ 1000 ∧ Tal x y n ∧ e = .returned (.complex .f64 x y) ∧ w = w'

set_option maxHeartbeats 400000 in
theorem small_any (a0 a1 : Int) (w0 : (Lit.int .i64 a0).wf = true) (w1 : (Lit.int .i64 a1).wf = true) (w : World) :
    Calls Try.prog 18 #[.int .i64 a0, .int .i64 a1] w (Small w) := by
  have hx := Lib.hid fun w => within_any a0 1000 w (bd64 w0).1 (bd64 w0).2 (by omega) (by omega)
  have hy := Lib.hid fun w => within_any a1 1000 w (bd64 w1).1 (bd64 w1).2 (by omega) (by omega)
  clear w0 w1
  go_enter Try.func18, Try.ntmps18
  go_wp2_with fail
  refine (hx.out _).mono ?_
  rintro e w' ⟨a, ha1, ha2, rfl, rfl⟩
  go_wp2_with fail
  refine (hy.out _).mono ?_
  rintro e w' ⟨b, hb1, hb2, rfl, rfl⟩
  go_wp2_with fail
  refine (Of_any _ _ _).mono ?_
  rintro e w' ⟨rfl, rfl⟩
  go_wp2_with fail
  go_ret
  exact ⟨_, _, a - b, by omega, by omega, tal_of ha1 (by omega) hb1 (by omega), rfl, rfl⟩

theorem mul_bd {a b : Int} (h1 : -1000 ≤ a) (h2 : a ≤ 1000) (h3 : -2000 ≤ b) (h4 : b ≤ 2000) : -2000000 ≤ a * b ∧ a * b ≤ 2000000 := by
  have hn : (a * b).natAbs ≤ 1000 * 2000 := by
    rw [Int.natAbs_mul]
    exact Nat.mul_le_mul (by omega) (by omega)
  omega

set_option maxHeartbeats 2000000 in
theorem tallyRules_walk (a0 a1 a2 a3 a4 a5 : Int) (w0 : (Lit.int .i64 a0).wf = true) (w1 : (Lit.int .i64 a1).wf = true) (w2 : (Lit.int .i64 a2).wf = true) (w3 : (Lit.int .i64 a3).wf = true) (w4 : (Lit.int .i64 a4).wf = true) (w5 : (Lit.int .i64 a5).wf = true) (w : World) :
    Calls Try.prog 4 #[.int .i64 a0, .int .i64 a1, .int .i64 a2, .int .i64 a3, .int .i64 a4, .int .i64 a5] w fun e w' => e = .returned (.bool true) ∧ w = w' := by
  have h1 := Lib.hid (small_any a0 a1 w0 w1)
  have h2 := Lib.hid (small_any a2 a3 w2 w3)
  have h3 := Lib.hid (small_any a4 a5 w4 w5)
  clear w0 w1 w2 w3 w4 w5
  go_enter Try.func4, Try.ntmps4
  go_wp2_with fail
  refine (h1.out _).mono ?_
  rintro e w' ⟨x1, x2, X, hX1, hX2, tx', rfl, rfl⟩
  have tx := Lib.hid tx'
  clear tx'
  go_wp2_with fail
  refine (h2.out _).mono ?_
  rintro e w' ⟨y1, y2, Y, hY1, hY2, ty', rfl, rfl⟩
  have ty := Lib.hid ty'
  clear ty'
  go_wp2_with fail
  refine (h3.out _).mono ?_
  rintro e w' ⟨z1, z2, Z, hZ1, hZ2, tz', rfl, rfl⟩
  have tz := Lib.hid tz'
  clear tz' h1 h2 h3
  obtain ⟨bxy1, bxy2⟩ := mul_bd hX1 hX2 (show -2000 ≤ Y by omega) (show Y ≤ 2000 by omega)
  obtain ⟨bxz1, bxz2⟩ := mul_bd hX1 hX2 (show -2000 ≤ Z by omega) (show Z ≤ 2000 by omega)
  obtain ⟨bxs1, bxs2⟩ := mul_bd hX1 hX2 (show -2000 ≤ Y + Z by omega) (show Y + Z ≤ 2000 by omega)
  have tp := Lib.hid (tal_red (n := X + Y) (by omega) (by omega))
  have ts := Lib.hid (tal_red (n := Y + Z) (by omega) (by omega))
  have tr := Lib.hid (tal_red (n := X + Y + Z) (by omega) (by omega))
  have tu := Lib.hid (tal_red (n := X * Y) (by omega) (by omega))
  have tg := Lib.hid (tal_red (n := X * Z) (by omega) (by omega))
  have th := Lib.hid (tal_red (n := X * (Y + Z)) (by omega) (by omega))
  have tq := Lib.hid (tal_red (n := X) (by omega) (by omega))
  have o1 := tp.out.o1
  have o2 := tp.out.o2
  have o3 := tr.out.o1
  have o4 := tr.out.o2
  have o5 := tu.out.o1
  have o6 := tu.out.o2
  have o7 := th.out.o1
  have o8 := th.out.o2
  have o9 := tq.out.o1
  have oA := tq.out.o2
  have eW := Lib.hid (Int.mul_add X Y Z)
  go_wp2_with fail
  refine (add_tal tx.out ty.out (r := X + Y) rfl (by omega) (by omega) _).mono ?_
  rintro e w' ⟨rfl, rfl⟩
  go_wp2_with fail
  refine (add_tal ty.out tx.out (r := X + Y) (by omega) (by omega) (by omega) _).mono ?_
  rintro e w' ⟨rfl, rfl⟩
  go_wp2_with fail
  refine (add_tal tp.out tz.out (r := X + Y + Z) rfl (by omega) (by omega) _).mono ?_
  rintro e w' ⟨rfl, rfl⟩
  go_wp2_with fail
  refine (add_tal ty.out tz.out (r := Y + Z) rfl (by omega) (by omega) _).mono ?_
  rintro e w' ⟨rfl, rfl⟩
  go_wp2_with fail
  refine (add_tal tx.out ts.out (r := X + Y + Z) (by omega) (by omega) (by omega) _).mono ?_
  rintro e w' ⟨rfl, rfl⟩
  go_wp2_with fail
  refine (times_tal tx.out ty.out (r := X * Y) rfl (by omega) (by omega) _).mono ?_
  rintro e w' ⟨rfl, rfl⟩
  go_wp2_with fail
  refine (times_tal ty.out tx.out (r := X * Y) (Int.mul_comm _ _) (by omega) (by omega) _).mono ?_
  rintro e w' ⟨rfl, rfl⟩
  go_wp2_with fail
  refine (times_tal tx.out ts.out (r := X * (Y + Z)) rfl (by omega) (by omega) _).mono ?_
  rintro e w' ⟨rfl, rfl⟩
  go_wp2_with fail
  refine (times_tal tx.out tz.out (r := X * Z) rfl (by omega) (by omega) _).mono ?_
  rintro e w' ⟨rfl, rfl⟩
  go_wp2_with fail
  refine (add_tal tu.out tg.out (r := X * (Y + Z)) eW.out.symm (by omega) (by omega) _).mono ?_
  rintro e w' ⟨rfl, rfl⟩
  go_wp2_with fail
  refine (net_tal tp.out _).mono ?_
  rintro e w' ⟨rfl, rfl⟩
  go_wp2_with fail
  refine (net_tal tx.out _).mono ?_
  rintro e w' ⟨rfl, rfl⟩
  go_wp2_with fail
  refine (net_tal ty.out _).mono ?_
  rintro e w' ⟨rfl, rfl⟩
  go_wp2_with fail
  refine (net_tal tu.out _).mono ?_
  rintro e w' ⟨rfl, rfl⟩
  go_wp2_with fail
  refine (net_tal tx.out _).mono ?_
  rintro e w' ⟨rfl, rfl⟩
  go_wp2_with fail
  refine (net_tal ty.out _).mono ?_
  rintro e w' ⟨rfl, rfl⟩
  go_wp2_with fail
  refine (flip_tal tx.out _).mono ?_
  rintro e w' ⟨rfl, rfl⟩
  go_wp2_with fail
  refine (net_tal tx.out.flip _).mono ?_
  rintro e w' ⟨rfl, rfl⟩
  go_wp2_with fail
  refine (net_tal tx.out _).mono ?_
  rintro e w' ⟨rfl, rfl⟩
  go_wp2_with fail
  refine (reduce_tal tx.out _).mono ?_
  rintro e w' ⟨rfl, rfl⟩
  go_wp2_with fail
  refine (reduce_tal tx.out _).mono ?_
  rintro e w' ⟨rfl, rfl⟩
  go_wp2_with fail
  refine (reduce_tal tq.out _).mono ?_
  rintro e w' ⟨rfl, rfl⟩
  go_wp2_with fail
  refine (known3 _).mono ?_
  rintro e w' ⟨rfl, rfl⟩
  go_wp2_with fail
  go_ret
  exact ⟨rfl, rfl⟩

end Go.Proofs.Ytabhkfpglhfiiaa
