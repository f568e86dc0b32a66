/-
  The contracts of package tally's functions over whole tallies: what each call gives, the world as it was.
-/
import Derived.Test.YtabhkfpglhfiiaaRows
import Derived.Test.YtabhkfpglhfiiaaFloat
import Derived.WalkKit
import Derived.WalkSpells
import Derived.WalkLawsBesides
import Derived.Deep.QuietTactic
import Derived.BigQuiet
import Derived.Lib.Mul64
import Derived.Shelf.Bits.Mul64
import Derived.Lib.Hide
namespace Go.Proofs.Ytabhkfpglhfiiaa
open Go.RowKit

theorem arch_trunc {x : Nat} {a : Int} (h : Fl.Reads x a) (w : World) : (callFunc 94 #[.float .f64 x]).run Try.prog w = .ok (.value (.float .f64 (Fl.F a))) w := by
  rw [run_callFunc_extern (e := Extern.MathFloor.toIntegral "math.archTrunc" .zero) Try.func94 (by kernel_rfl) (by kernel_rfl) (by kernel_rfl) (by kernel_rfl) _ w]
  have e : (Extern.MathFloor.toIntegral "math.archTrunc" .zero #[.float .f64 x]).run Try.prog w = .ok (.float .f64 (Fl.F a)) w := by
    obtain ⟨k, hk, hd⟩ := h
    have ht := Fl.trunc_reads ⟨k, hk, hd⟩
    have hd' : FloatKind.f64.decode x = .number (decide (a < 0)) (a.natAbs * 2 ^ k) (-(k : Int)) := hd
    change Sem.run Try.prog ((match FloatKind.f64.decode x with
      | .nan s t =>
        if FloatKind.f64.format.quiet t = t then pure (.float .f64 x) else do
        let kept ← choose (.extern "math.Floor,Ceil,Trunc,RoundToEven.signallingNaN kept" 2)
        pure (.float .f64 (if kept == 1 then x else FloatKind.f64.encode (.nan s (FloatKind.f64.format.quiet t))))
      | d => pure (.float .f64 (FloatKind.f64.encode (d.integral .zero)))) : Sem Value) w = _
    rw [hd'] at ht ⊢
    simp only [ht]
    rfl
  rw [e]
  rfl

theorem trunc_any {x : Nat} {a : Int} (h : Fl.Reads x a) (w : World) :
    Calls Try.prog 74 #[.float .f64 x] w fun e w' => e = .returned (.float .f64 (Fl.F a)) ∧ w = w' := by
  have hd := arch_trunc h
  clear h
  go_enter Try.func74, Try.ntmps74
  go_wp2
  go_ret
  exact ⟨rfl, rfl⟩

theorem F_zero : Fl.F 0 = 0 := by decide +kernel
theorem F_most : Fl.F 1125899906842624 = 4832362400168542208 := by decide +kernel
theorem reads_zero : Fl.Reads 0 0 := by have := Fl.reads_F 0 (by omega); rwa [F_zero] at this
theorem reads_most : Fl.Reads 4832362400168542208 1125899906842624 := by have := Fl.reads_F 1125899906842624 (by omega); rwa [F_most] at this

def okPart (a : Int) : Bool := decide (0 ≤ a ∧ a ≤ 1125899906842624)

theorem order_of {x y : Nat} {a b : Int} {o : Ordering} (hx : Fl.Reads x a) (hy : Fl.Reads y b) (h : compare a b = o) : FloatKind.f64.format.order x y = some o := by
  rw [← h]; exact Fl.order_reads hx hy

set_option maxHeartbeats 400000 in
theorem whole_any {x : Nat} {a : Int} (h : Fl.Reads x a) (w : World) :
    Calls Try.prog 50 #[.float .f64 x] w fun e w' => e = .returned (.bool (okPart a)) ∧ w = w' := by
  rcases Int.lt_trichotomy a 0 with h0 | h0 | h0
  · have f1 := order_of h reads_zero (Int.compare_eq_lt.2 h0)
    have hr : okPart a = false := by unfold okPart; rw [decide_eq_false]; omega
    rw [hr]
    clear h h0 hr
    go_enter Try.func50, Try.ntmps50
    go_wp2
    go_ret
    exact ⟨rfl, rfl⟩
  · subst h0
    have f1 := order_of h reads_zero (Int.compare_eq_eq.2 rfl)
    have f2 := order_of (o := .lt) h reads_most (by decide)
    have f3 : FloatKind.f64.format.order x (Fl.F 0) = some .eq := order_of (o := .eq) h (Fl.reads_F 0 (by omega)) (by decide)
    have hr : okPart 0 = true := by decide
    rw [hr]
    have H := Lib.hid h
    clear h hr
    go_enter Try.func50, Try.ntmps50
    go_wp2_with (go_at_call 74; refine (trunc_any H.out _).mono ?_; rintro e w' ⟨rfl, rfl⟩)
    go_ret
    exact ⟨rfl, rfl⟩
  · have f1 := order_of h reads_zero (Int.compare_eq_gt.2 h0)
    rcases Int.lt_trichotomy a 1125899906842624 with h1 | h1 | h1
    · have f2 := order_of h reads_most (Int.compare_eq_lt.2 h1)
      have f3 : FloatKind.f64.format.order x (Fl.F a) = some .eq := order_of h (Fl.reads_F a (by omega)) (Int.compare_eq_eq.2 rfl)
      have hr : okPart a = true := by unfold okPart; rw [decide_eq_true]; omega
      rw [hr]
      have H := Lib.hid h
      clear h hr
      go_enter Try.func50, Try.ntmps50
      go_wp2_with (go_at_call 74; refine (trunc_any H.out _).mono ?_; rintro e w' ⟨rfl, rfl⟩)
      go_ret
      exact ⟨rfl, rfl⟩
    · subst h1
      have f2 := order_of h reads_most (Int.compare_eq_eq.2 rfl)
      have f3 : FloatKind.f64.format.order x (Fl.F 1125899906842624) = some .eq := order_of h (Fl.reads_F _ (by omega)) (Int.compare_eq_eq.2 rfl)
      have hr : okPart 1125899906842624 = true := by decide
      rw [hr]
      have H := Lib.hid h
      clear h hr
      go_enter Try.func50, Try.ntmps50
      go_wp2_with (go_at_call 74; refine (trunc_any H.out _).mono ?_; rintro e w' ⟨rfl, rfl⟩)
      go_ret
      exact ⟨rfl, rfl⟩
    · have f2 := order_of h reads_most (Int.compare_eq_gt.2 h1)
      have hr : okPart a = false := by unfold okPart; rw [decide_eq_false]; omega
      rw [hr]
      clear h h0 hr h1
      go_enter Try.func50, Try.ntmps50
      go_wp2
      go_ret
      exact ⟨rfl, rfl⟩

set_option maxHeartbeats 400000 in
theorem right_any {x y : Nat} {a b : Int} (hx : Fl.Reads x a) (hy : Fl.Reads y b) (w : World) :
    Calls Try.prog 14 #[.complex .f64 x y] w fun e w' => e = .returned (.bool (okPart a && okPart b)) ∧ w = w' := by
  have c1 := Lib.hid (whole_any hx)
  have c2 := Lib.hid (whole_any hy)
  clear hx hy
  by_cases ha : okPart a = true
  · have e : (okPart a && okPart b) = okPart b := by rw [ha]; rfl
    rw [e]
    generalize okPart b = q at *
    rw [ha] at c1
    clear e ha
    go_enter Try.func14, Try.ntmps14
    go_wp2_with fail
    refine (c1.out _).mono ?_
    rintro e w' ⟨rfl, rfl⟩
    go_wp2_with fail
    refine (c2.out _).mono ?_
    rintro e w' ⟨rfl, rfl⟩
    go_wp2_with fail
    go_ret
    exact ⟨rfl, rfl⟩
  · have ha' : okPart a = false := by simpa using ha
    have e : (okPart a && okPart b) = false := by rw [ha']; rfl
    rw [e]
    rw [ha'] at c1
    clear e ha ha'
    go_enter Try.func14, Try.ntmps14
    go_wp2_with fail
    refine (c1.out _).mono ?_
    rintro e w' ⟨rfl, rfl⟩
    go_wp2_with fail
    go_ret
    exact ⟨rfl, rfl⟩

/-- a number if it counts, else 0 -/
def sel (q : Bool) (n : Int) : Int := if q then n else 0
theorem sel_true (n : Int) : sel true n = n := rfl
theorem sel_false (n : Int) : sel false n = 0 := rfl
def okT (a b : Int) : Bool := okPart a && okPart b
theorem okT_bd {a b : Int} (h : okT a b = true) : (0 ≤ a ∧ a ≤ 1125899906842624) ∧ (0 ≤ b ∧ b ≤ 1125899906842624) := by
  unfold okT okPart at h
  simpa using h
def netT (a b : Int) : Int := sel (okT a b) (a - b)
theorem netT_bd (a b : Int) : -1125899906842624 ≤ netT a b ∧ netT a b ≤ 1125899906842624 := by
  unfold netT
  cases h : okT a b
  · simp [sel]
  · have := okT_bd h
    simp only [sel]
    simp
    omega

set_option maxHeartbeats 400000 in
theorem parts_any {x y : Nat} {a b : Int} (hx : Fl.Reads x a) (hy : Fl.Reads y b) (w : World) :
    Calls Try.prog 13 #[.complex .f64 x y] w fun e w' => e = .returned (.tuple #[.int .i64 (sel (okT a b) a), .int .i64 (sel (okT a b) b), .bool (okT a b)]) ∧ w = w' := by
  have c := Lib.hid (right_any hx hy)
  by_cases h : okT a b = true
  · have hb := okT_bd h
    have k1 := fun w => run_convert_float_int (P := Try.prog) w 77 2 .f64 .i64 x a (by kernel_rfl) Try.underlying2 (Fl.floatToInt_reads hx (by omega) (by omega))
    have k2 := fun w => run_convert_float_int (P := Try.prog) w 77 2 .f64 .i64 y b (by kernel_rfl) Try.underlying2 (Fl.floatToInt_reads hy (by omega) (by omega))
    rw [h, sel_true, sel_true]
    rw [show (okPart a && okPart b) = true from h] at c
    clear hx hy h hb
    go_enter Try.func13, Try.ntmps13
    go_wp2_with (go_at_call 14; refine (c.out _).mono ?_; rintro e w' ⟨rfl, rfl⟩)
    go_ret3
    exact ⟨rfl, rfl⟩
  · have h' : okT a b = false := by simpa using h
    rw [h', sel_false, sel_false]
    rw [show (okPart a && okPart b) = false from h'] at c
    clear hx hy h h'
    go_enter Try.func13, Try.ntmps13
    go_wp2_with (go_at_call 14; refine (c.out _).mono ?_; rintro e w' ⟨rfl, rfl⟩)
    go_ret3
    exact ⟨rfl, rfl⟩

theorem net_any {x y : Nat} {a b : Int} (hx : Fl.Reads x a) (hy : Fl.Reads y b) (w : World) :
    Calls Try.prog 19 #[.complex .f64 x y] w fun e w' => e = .returned (.int .i64 (netT a b)) ∧ w = w' := by
  have c := Lib.hid (parts_any hx hy)
  have hb : -1125899906842624 ≤ sel (okT a b) a - sel (okT a b) b ∧ sel (okT a b) a - sel (okT a b) b ≤ 1125899906842624 ∧ sel (okT a b) a - sel (okT a b) b = netT a b := by
    have := netT_bd a b
    unfold netT at *
    cases h : okT a b <;> simp [sel, h] at * <;> omega
  obtain ⟨h1, h2, h3⟩ := hb
  rw [← h3]
  clear hx hy h3
  go_enter Try.func19, Try.ntmps19
  go_wp2_with (go_at_call 13; refine (c.out _).mono ?_; rintro e w' ⟨rfl, rfl⟩)
  go_ret
  exact ⟨rfl, rfl⟩

theorem Of_any (a b : Int) (w : World) :
    Calls Try.prog 10 #[.int .i64 a, .int .i64 b] w fun e w' => e = .returned (.complex .f64 (Fl.F a) (Fl.F b)) ∧ w = w' := by
  go_enter Try.func10, Try.ntmps10
  go_wp2
  go_ret
  exact ⟨rfl, rfl⟩

def pos (n : Int) : Int := if 0 ≤ n then n else 0
theorem pos_bd (n : Int) : 0 ≤ pos n ∧ (0 ≤ n → pos n = n) ∧ (n ≤ 0 → pos n = 0) := by
  unfold pos; refine ⟨?_, ?_, ?_⟩ <;> intros <;> split <;> omega

set_option maxHeartbeats 400000 in
theorem of_any (n : Int) (w : World) (h1 : -4503599627370496 ≤ n) (h2 : n ≤ 4503599627370496) :
    Calls Try.prog 51 #[.int .i64 n] w fun e w' => e = .returned (.complex .f64 (Fl.F (pos n)) (Fl.F (pos (-n)))) ∧ w = w' := by
  obtain ⟨p0, p1, p2⟩ := pos_bd n
  obtain ⟨m0, m1, m2⟩ := pos_bd (-n)
  rcases Int.lt_trichotomy n 0 with h | h | h
  · rw [p2 (by omega), m1 (by omega)]
    clear p0 p1 p2 m0 m1 m2
    go_enter Try.func51, Try.ntmps51
    go_wp2_with (go_at_call 10; refine (Of_any _ _ _).mono ?_; rintro e w' ⟨rfl, rfl⟩)
    go_ret
    exact ⟨rfl, rfl⟩
  · subst h
    rw [p2 (by omega), m2 (by omega)]
    clear p0 p1 p2 m0 m1 m2 h1 h2
    go_enter Try.func51, Try.ntmps51
    go_wp2_with (go_at_call 10; refine (Of_any _ _ _).mono ?_; rintro e w' ⟨rfl, rfl⟩)
    go_ret
    exact ⟨rfl, rfl⟩
  · rw [p1 (by omega), m2 (by omega)]
    clear p0 p1 p2 m0 m1 m2
    go_enter Try.func51, Try.ntmps51
    go_wp2_with (go_at_call 10; refine (Of_any _ _ _).mono ?_; rintro e w' ⟨rfl, rfl⟩)
    go_ret
    exact ⟨rfl, rfl⟩

theorem reads_pos (n : Int) (h1 : -4503599627370496 ≤ n) (h2 : n ≤ 4503599627370496) : Fl.Reads (Fl.F (pos n)) (pos n) :=
  Fl.reads_F _ (by have := pos_bd n; omega)

set_option maxHeartbeats 400000 in
theorem reduce_any {x y : Nat} {a b : Int} (hx : Fl.Reads x a) (hy : Fl.Reads y b) (w : World) :
    Calls Try.prog 15 #[.complex .f64 x y] w fun e w' => e = .returned (.complex .f64 (Fl.F (pos (netT a b))) (Fl.F (pos (-netT a b)))) ∧ w = w' := by
  have c := Lib.hid (net_any hx hy)
  obtain ⟨h1, h2⟩ := netT_bd a b
  generalize netT a b = n at *
  clear hx hy
  go_enter Try.func15, Try.ntmps15
  go_wp2_with (first | (go_at_call 19; refine (c.out _).mono ?_; rintro e w' ⟨rfl, rfl⟩) | (go_at_call 51; refine (of_any n _ (by omega) (by omega)).mono ?_; rintro e w' ⟨rfl, rfl⟩))
  go_ret
  exact ⟨rfl, rfl⟩

def fitN (n : Int) : Bool := decide (-1125899906842624 ≤ n ∧ n ≤ 1125899906842624)

set_option maxHeartbeats 400000 in
theorem some_any (n : Int) (q : Bool) (w : World) (h1 : -4503599627370496 ≤ n) (h2 : n ≤ 4503599627370496) :
    Calls Try.prog 48 #[.int .i64 n, .bool q] w fun e w' =>
      e = .returned (.tuple #[.complex .f64 (Fl.F (pos (sel (q && fitN n) n))) (Fl.F (pos (-(sel (q && fitN n) n)))), .bool (q && fitN n)]) ∧ w = w' := by
  by_cases hf : fitN n = true
  · have hb : -1125899906842624 ≤ n ∧ n ≤ 1125899906842624 := by unfold fitN at hf; simpa using hf
    obtain ⟨h3, h4⟩ := hb
    rw [hf]
    clear hf
    cases q
    · rw [show (false && true) = false from rfl, sel_false, show pos 0 = 0 from rfl, show pos (-0) = 0 from rfl, F_zero]
      go_enter Try.func48, Try.ntmps48
      go_wp2
      go_ret2
      exact ⟨rfl, rfl⟩
    · rw [show (true && true) = true from rfl, sel_true]
      go_enter Try.func48, Try.ntmps48
      go_wp2_with (go_at_call 51; refine (of_any n _ (by omega) (by omega)).mono ?_; rintro e w' ⟨rfl, rfl⟩)
      go_ret2
      exact ⟨rfl, rfl⟩
  · have hf' : fitN n = false := by simpa using hf
    have hb : n < -1125899906842624 ∨ 1125899906842624 < n := by unfold fitN at hf; simp at hf; omega
    rw [hf', Bool.and_false, sel_false, show pos 0 = 0 from rfl, show pos (-0) = 0 from rfl, F_zero]
    clear hf hf'
    cases q <;> rcases hb with hb | hb
    all_goals
      go_enter Try.func48, Try.ntmps48
      go_wp2
      go_ret2
      exact ⟨rfl, rfl⟩

theorem flip_yes {x y : Nat} {a b : Int} (hx : Fl.Reads x a) (hy : Fl.Reads y b) (h : okT a b = true) (w : World) :
    Calls Try.prog 16 #[.complex .f64 x y] w fun e w' => e = .returned (.complex .f64 y x) ∧ w = w' := by
  have c := Lib.hid (right_any hx hy)
  rw [show (okPart a && okPart b) = true from h] at c
  clear hx hy h
  go_enter Try.func16, Try.ntmps16
  go_wp2_with (go_at_call 14; refine (c.out _).mono ?_; rintro e w' ⟨rfl, rfl⟩)
  go_ret
  exact ⟨rfl, rfl⟩

theorem flip_no {x y : Nat} {a b : Int} (hx : Fl.Reads x a) (hy : Fl.Reads y b) (h : okT a b = false) (w : World) :
    Calls Try.prog 16 #[.complex .f64 x y] w fun e w' => e = .returned (.complex .f64 0 0) ∧ w = w' := by
  have c := Lib.hid (right_any hx hy)
  rw [show (okPart a && okPart b) = false from h] at c
  clear hx hy h
  go_enter Try.func16, Try.ntmps16
  go_wp2_with (go_at_call 14; refine (c.out _).mono ?_; rintro e w' ⟨rfl, rfl⟩)
  go_ret
  exact ⟨rfl, rfl⟩

def addOk (a b c d : Int) : Bool := (okT a b && okT c d) && fitN (netT a b + netT c d)
def addN (a b c d : Int) : Int := sel (addOk a b c d) (netT a b + netT c d)

set_option maxHeartbeats 400000 in
theorem add_any {x y u v : Nat} {a b c d : Int} (hx : Fl.Reads x a) (hy : Fl.Reads y b) (hu : Fl.Reads u c) (hv : Fl.Reads v d) (w : World) :
    Calls Try.prog 11 #[.complex .f64 x y, .complex .f64 u v] w fun e w' =>
      e = .returned (.tuple #[.complex .f64 (Fl.F (pos (addN a b c d))) (Fl.F (pos (-(addN a b c d)))), .bool (addOk a b c d)]) ∧ w = w' := by
  have n1 := Lib.hid (net_any hx hy)
  have n2 := Lib.hid (net_any hu hv)
  have r1 := Lib.hid (right_any hx hy)
  have r2 := Lib.hid (right_any hu hv)
  obtain ⟨b1, b2⟩ := netT_bd a b
  obtain ⟨b3, b4⟩ := netT_bd c d
  unfold addN addOk
  change Hid (∀ w, Calls Try.prog 14 #[.complex .f64 x y] w fun e w' => e = .returned (.bool (okT a b)) ∧ w = w') at r1
  change Hid (∀ w, Calls Try.prog 14 #[.complex .f64 u v] w fun e w' => e = .returned (.bool (okT c d)) ∧ w = w') at r2
  generalize netT a b = n at *
  generalize netT c d = m at *
  generalize okT a b = p at *
  generalize okT c d = q at *
  clear hx hy hu hv
  cases p
  · rw [show (false && q && fitN (n + m)) = (false && fitN (n + m)) from rfl]
    go_enter Try.func11, Try.ntmps11
    go_wp2_with fail
    refine (n1.out _).mono ?_
    rintro e w' ⟨rfl, rfl⟩
    go_wp2_with fail
    refine (n2.out _).mono ?_
    rintro e w' ⟨rfl, rfl⟩
    go_wp2_with fail
    refine (r1.out _).mono ?_
    rintro e w' ⟨rfl, rfl⟩
    go_wp2_with fail
    refine (some_any (n + m) false _ (by omega) (by omega)).mono ?_
    rintro e w' ⟨rfl, rfl⟩
    go_wp2_with fail
    go_ret2
    exact ⟨rfl, rfl⟩
  · rw [show (true && q && fitN (n + m)) = (q && fitN (n + m)) from by rw [Bool.true_and]]
    go_enter Try.func11, Try.ntmps11
    go_wp2_with fail
    refine (n1.out _).mono ?_
    rintro e w' ⟨rfl, rfl⟩
    go_wp2_with fail
    refine (n2.out _).mono ?_
    rintro e w' ⟨rfl, rfl⟩
    go_wp2_with fail
    refine (r1.out _).mono ?_
    rintro e w' ⟨rfl, rfl⟩
    go_wp2_with fail
    refine (r2.out _).mono ?_
    rintro e w' ⟨rfl, rfl⟩
    go_wp2_with fail
    refine (some_any (n + m) q _ (by omega) (by omega)).mono ?_
    rintro e w' ⟨rfl, rfl⟩
    go_wp2_with fail
    go_ret2
    exact ⟨rfl, rfl⟩

set_option maxHeartbeats 1000000 in
theorem mul64_any (x y : Nat) (hx : x < 18446744073709551616) (hy : y < 18446744073709551616) (w : World) :
    Calls Try.prog 49 #[.int .u64 x, .int .u64 y] w fun e w' => e = .returned (.tuple #[.int .u64 ((x * y / 18446744073709551616 : Nat) : Int), .int .u64 ((x * y % 18446744073709551616 : Nat) : Int)]) ∧ w = w' := by
  obtain ⟨bd, bt, bw, hhi⟩ := Lib.mul64_hi x y hx hy
  have ba := Lib.half_mul_le (a := x / 4294967296) (b := y / 4294967296) (by omega) (by omega)
  have bb := Lib.half_mul_le (a := x / 4294967296) (b := y % 4294967296) (by omega) (by omega)
  have bc := Lib.half_mul_le (a := x % 4294967296) (b := y / 4294967296) (by omega) (by omega)
  have ba' : x / 4294967296 * (y / 4294967296) < 18446744073709551616 := by omega
  have bb' : x / 4294967296 * (y % 4294967296) < 18446744073709551616 := by omega
  have bc' : x % 4294967296 * (y / 4294967296) < 18446744073709551616 := by omega
  have bh1 : x / 4294967296 * (y / 4294967296) + (x / 4294967296 * (y % 4294967296) + x % 4294967296 * (y % 4294967296) / 4294967296) / 4294967296 < 18446744073709551616 := by omega
  have bh : x / 4294967296 * (y / 4294967296) + (x / 4294967296 * (y % 4294967296) + x % 4294967296 * (y % 4294967296) / 4294967296) / 4294967296 + ((x / 4294967296 * (y % 4294967296) + x % 4294967296 * (y % 4294967296) / 4294967296) % 4294967296 + x % 4294967296 * (y / 4294967296)) / 4294967296 < 18446744073709551616 := by omega
  go_enter Try.func49, Try.ntmps49
  go_wp2
  simp only [Mul64.maskN x hx, Mul64.maskN y hy, Mul64.divN, Mul64.mulN, Mul64.addN, Mul64.wrapN _ bd, Mul64.wrapN _ bb', Mul64.wrapN _ bt, Mul64.maskN _ bt, Mul64.wrapN _ bc', Mul64.wrapN _ bw, Mul64.wrapN _ ba', Mul64.wrapN _ bh1, Mul64.wrapN _ bh, Mul64.wrapM (x * y)]
  rw [hhi]
  go_ret2
  exact ⟨rfl, rfl⟩

def timesOk (a b c d : Int) : Bool := (okT a b && okT c d) && fitN (netT a b * netT c d)
def timesN (a b c d : Int) : Int := sel (timesOk a b c d) (netT a b * netT c d)

set_option maxHeartbeats 400000 in
theorem times_no {x y u v : Nat} {a b c d : Int} (hx : Fl.Reads x a) (hy : Fl.Reads y b) (hu : Fl.Reads u c) (hv : Fl.Reads v d) (w : World) (h : (okT a b && okT c d) = false) :
    Calls Try.prog 12 #[.complex .f64 x y, .complex .f64 u v] w fun e w' =>
      e = .returned (.tuple #[.complex .f64 0 0, .bool false]) ∧ w = w' := by
  have r1 := Lib.hid (right_any hx hy)
  have r2 := Lib.hid (right_any hu hv)
  change Hid (∀ w, Calls Try.prog 14 #[.complex .f64 x y] w fun e w' => e = .returned (.bool (okT a b)) ∧ w = w') at r1
  change Hid (∀ w, Calls Try.prog 14 #[.complex .f64 u v] w fun e w' => e = .returned (.bool (okT c d)) ∧ w = w') at r2
  generalize okT a b = p at *
  generalize okT c d = q at *
  clear hx hy hu hv
  cases p
  · clear h
    go_enter Try.func12, Try.ntmps12
    go_wp2_with fail
    refine (r1.out _).mono ?_
    rintro e w' ⟨rfl, rfl⟩
    go_wp2_with fail
    go_ret2
    exact ⟨rfl, rfl⟩
  · obtain rfl : q = false := by simpa using h
    clear h
    go_enter Try.func12, Try.ntmps12
    go_wp2_with fail
    refine (r1.out _).mono ?_
    rintro e w' ⟨rfl, rfl⟩
    go_wp2_with fail
    refine (r2.out _).mono ?_
    rintro e w' ⟨rfl, rfl⟩
    go_wp2_with fail
    go_ret2
    exact ⟨rfl, rfl⟩

theorem mul64_fit (p q r : Int) (hp : 0 ≤ p) (hq : 0 ≤ q) (hp' : p ≤ 1125899906842624) (hq' : q ≤ 1125899906842624) (hr : p * q = r) (h2 : r ≤ 1125899906842624) (w : World) :
    Calls Try.prog 49 #[.int .u64 p, .int .u64 q] w fun e w' => e = .returned (.tuple #[.int .u64 0, .int .u64 r]) ∧ w = w' := by
  obtain ⟨x, rfl⟩ := Int.eq_ofNat_of_zero_le hp
  obtain ⟨y, rfl⟩ := Int.eq_ofNat_of_zero_le hq
  refine (mul64_any x y (by omega) (by omega) w).mono ?_
  rintro e w' ⟨rfl, rfl⟩
  have e0 : ((x * y : Nat) : Int) = r := by rw [Int.natCast_mul]; exact hr
  generalize x * y = P at *
  have e1 : ((P / 18446744073709551616 : Nat) : Int) = 0 := by omega
  have e2 : ((P % 18446744073709551616 : Nat) : Int) = r := by omega
  rw [e1, e2]
  exact ⟨rfl, rfl⟩

def Over (w : World) (e : Ending) (w' : World) : Prop := ∃ hi lo : Int, (0 < hi ∨ hi = 0 ∧ 1125899906842624 < lo) ∧ e = .returned (.tuple #[.int .u64 hi, .int .u64 lo]) ∧ w = w'

theorem mul64_over (p q r : Int) (hp : 0 ≤ p) (hq : 0 ≤ q) (hp' : p ≤ 1125899906842624) (hq' : q ≤ 1125899906842624) (hr : p * q = r) (h2 : 1125899906842624 < r) (w : World) :
    Calls Try.prog 49 #[.int .u64 p, .int .u64 q] w (Over w) := by
  obtain ⟨x, rfl⟩ := Int.eq_ofNat_of_zero_le hp
  obtain ⟨y, rfl⟩ := Int.eq_ofNat_of_zero_le hq
  refine (mul64_any x y (by omega) (by omega) w).mono ?_
  rintro e w' ⟨rfl, rfl⟩
  have e0 : ((x * y : Nat) : Int) = r := by rw [Int.natCast_mul]; exact hr
  generalize x * y = P at *
  exact ⟨_, _, by omega, rfl, rfl⟩

end Go.Proofs.Ytabhkfpglhfiiaa
