/-
  The contracts of package tally's functions over whole tallies: what each call gives, the world as it was.
-/
import Derived.Test.YtajnnkapgnmoaaaGreatRows
import Derived.Test.YtajnnkapgnmoaaaGreatMs1
import Derived.WalkKit
import Derived.WalkSpells
import Derived.WalkLawsBesides
import Derived.Deep.QuietTactic
import Derived.BigQuiet
import Derived.Lib.Hide
import Derived.Test.YtajnnkapgnmoaaaGreatMs0
set_option linter.unusedVariables false
set_option linter.unusedSimpArgs false
namespace Go.Proofs.YtajnnkapgnmoaaaGreat
open Go.RowKit

theorem arch_trunc {x : Nat} {a : Int} (h : Fl.Reads x a) (w : World) : (callFunc 143 #[.float .f64 x]).run Tryz.prog w = .ok (.value (.float .f64 (Fl.F a))) w := by
  rw [run_callFunc_extern (e := Extern.MathFloor.toIntegral "math.archTrunc" .zero) Tryz.func143 (by kernel_rfl) (by kernel_rfl) (by kernel_rfl) (by kernel_rfl) _ w]
  have e : (Extern.MathFloor.toIntegral "math.archTrunc" .zero #[.float .f64 x]).run Tryz.prog w = .ok (.float .f64 (Fl.F a)) w := by
    obtain ⟨k, hk, hd⟩ := h
    have ht := Fl.trunc_reads ⟨k, hk, hd⟩
    have hd' : FloatKind.f64.decode x = .number (decide (a < 0)) (a.natAbs * 2 ^ k) (-(k : Int)) := hd
    change Sem.run Tryz.prog ((match FloatKind.f64.decode x with
      | .nan s t =>
        if FloatKind.f64.format.quiet t = t then pure (.float .f64 x) else do
        let kept ← choose (.extern "math.Floor,Ceil,Trunc,RoundToEven.signallingNaN kept" 2)
        pure (.float .f64 (if kept == 1 then x else FloatKind.f64.encode (.nan s (FloatKind.f64.format.quiet t))))
      | d => pure (.float .f64 (FloatKind.f64.encode (d.integral .zero)))) : Sem Value) w = _
    rw [hd'] at ht ⊢
    simp only [ht]
    rfl
  rw [e]
  rfl

theorem trunc_any {x : Nat} {a : Int} (h : Fl.Reads x a) (w : World) :
    Calls Tryz.prog 136 #[.float .f64 x] w fun e w' => e = .returned (.float .f64 (Fl.F a)) ∧ w = w' := by
  have hd := arch_trunc h
  clear h
  go_enter Tryz.func136, Tryz.ntmps136
  go_wp2
  go_ret
  exact ⟨rfl, rfl⟩

theorem F_zero : Fl.F 0 = 0 := by decide +kernel
theorem F_most : Fl.F 1125899906842624 = 4832362400168542208 := by decide +kernel
theorem reads_zero : Fl.Reads 0 0 := by have := Fl.reads_F 0 (by omega); rwa [F_zero] at this
theorem reads_most : Fl.Reads 4832362400168542208 1125899906842624 := by have := Fl.reads_F 1125899906842624 (by omega); rwa [F_most] at this

def okPart (a : Int) : Bool := decide (0 ≤ a ∧ a ≤ 1125899906842624)

theorem order_of {x y : Nat} {a b : Int} {o : Ordering} (hx : Fl.Reads x a) (hy : Fl.Reads y b) (h : compare a b = o) : FloatKind.f64.format.order x y = some o := by
  rw [← h]; exact Fl.order_reads hx hy

set_option maxHeartbeats 400000 in
theorem whole_any {x : Nat} {a : Int} (h : Fl.Reads x a) (w : World) :
    Calls Tryz.prog 117 #[.float .f64 x] w fun e w' => e = .returned (.bool (okPart a)) ∧ w = w' := by
  rcases Int.lt_trichotomy a 0 with h0 | h0 | h0
  · have f1 := order_of h reads_zero (Int.compare_eq_lt.2 h0)
    have hr : okPart a = false := by unfold okPart; rw [decide_eq_false]; omega
    rw [hr]
    clear h h0 hr
    go_enter Tryz.func117, Tryz.ntmps117
    go_wp2
    go_ret
    exact ⟨rfl, rfl⟩
  · subst h0
    have f1 := order_of h reads_zero (Int.compare_eq_eq.2 rfl)
    have f2 := order_of (o := .lt) h reads_most (by decide)
    have f3 : FloatKind.f64.format.order x (Fl.F 0) = some .eq := order_of (o := .eq) h (Fl.reads_F 0 (by omega)) (by decide)
    have hr : okPart 0 = true := by decide
    rw [hr]
    have H := Lib.hid h
    clear h hr
    go_enter Tryz.func117, Tryz.ntmps117
    go_wp2_with (go_at_call 136; refine (trunc_any H.out _).mono ?_; rintro e w' ⟨rfl, rfl⟩)
    go_ret
    exact ⟨rfl, rfl⟩
  · have f1 := order_of h reads_zero (Int.compare_eq_gt.2 h0)
    rcases Int.lt_trichotomy a 1125899906842624 with h1 | h1 | h1
    · have f2 := order_of h reads_most (Int.compare_eq_lt.2 h1)
      have f3 : FloatKind.f64.format.order x (Fl.F a) = some .eq := order_of h (Fl.reads_F a (by omega)) (Int.compare_eq_eq.2 rfl)
      have hr : okPart a = true := by unfold okPart; rw [decide_eq_true]; omega
      rw [hr]
      have H := Lib.hid h
      clear h hr
      go_enter Tryz.func117, Tryz.ntmps117
      go_wp2_with (go_at_call 136; refine (trunc_any H.out _).mono ?_; rintro e w' ⟨rfl, rfl⟩)
      go_ret
      exact ⟨rfl, rfl⟩
    · subst h1
      have f2 := order_of h reads_most (Int.compare_eq_eq.2 rfl)
      have f3 : FloatKind.f64.format.order x (Fl.F 1125899906842624) = some .eq := order_of h (Fl.reads_F _ (by omega)) (Int.compare_eq_eq.2 rfl)
      have hr : okPart 1125899906842624 = true := by decide
      rw [hr]
      have H := Lib.hid h
      clear h hr
      go_enter Tryz.func117, Tryz.ntmps117
      go_wp2_with (go_at_call 136; refine (trunc_any H.out _).mono ?_; rintro e w' ⟨rfl, rfl⟩)
      go_ret
      exact ⟨rfl, rfl⟩
    · have f2 := order_of h reads_most (Int.compare_eq_gt.2 h1)
      have hr : okPart a = false := by unfold okPart; rw [decide_eq_false]; omega
      rw [hr]
      clear h h0 hr h1
      go_enter Tryz.func117, Tryz.ntmps117
      go_wp2
      go_ret
      exact ⟨rfl, rfl⟩

set_option maxHeartbeats 400000 in
theorem right_any {x y : Nat} {a b : Int} (hx : Fl.Reads x a) (hy : Fl.Reads y b) (w : World) :
    Calls Tryz.prog 78 #[.complex .f64 x y] w fun e w' => e = .returned (.bool (okPart a && okPart b)) ∧ w = w' := by
  have c1 := Lib.hid (whole_any hx)
  have c2 := Lib.hid (whole_any hy)
  clear hx hy
  by_cases ha : okPart a = true
  · have e : (okPart a && okPart b) = okPart b := by rw [ha]; rfl
    rw [e]
    generalize okPart b = q at *
    rw [ha] at c1
    clear e ha
    go_enter Tryz.func78, Tryz.ntmps78
    go_wp2_with fail
    refine (c1.out _).mono ?_
    rintro e w' ⟨rfl, rfl⟩
    go_wp2_with fail
    refine (c2.out _).mono ?_
    rintro e w' ⟨rfl, rfl⟩
    go_wp2_with fail
    go_ret
    exact ⟨rfl, rfl⟩
  · have ha' : okPart a = false := by simpa using ha
    have e : (okPart a && okPart b) = false := by rw [ha']; rfl
    rw [e]
    rw [ha'] at c1
    clear e ha ha'
    go_enter Tryz.func78, Tryz.ntmps78
    go_wp2_with fail
    refine (c1.out _).mono ?_
    rintro e w' ⟨rfl, rfl⟩
    go_wp2_with fail
    go_ret
    exact ⟨rfl, rfl⟩

/-- a number if it counts, else 0 -/
def sel (q : Bool) (n : Int) : Int := if q then n else 0
theorem sel_true (n : Int) : sel true n = n := rfl
theorem sel_false (n : Int) : sel false n = 0 := rfl
def okT (a b : Int) : Bool := okPart a && okPart b
theorem okT_bd {a b : Int} (h : okT a b = true) : (0 ≤ a ∧ a ≤ 1125899906842624) ∧ (0 ≤ b ∧ b ≤ 1125899906842624) := by
  unfold okT okPart at h
  simpa using h
def netT (a b : Int) : Int := sel (okT a b) (a - b)
theorem netT_bd (a b : Int) : -1125899906842624 ≤ netT a b ∧ netT a b ≤ 1125899906842624 := by
  unfold netT
  cases h : okT a b
  · simp [sel]
  · have := okT_bd h
    simp only [sel]
    simp
    omega

set_option maxHeartbeats 400000 in
theorem parts_any {x y : Nat} {a b : Int} (hx : Fl.Reads x a) (hy : Fl.Reads y b) (w : World) :
    Calls Tryz.prog 88 #[.complex .f64 x y] w fun e w' => e = .returned (.tuple #[.int .i64 (sel (okT a b) a), .int .i64 (sel (okT a b) b), .bool (okT a b)]) ∧ w = w' := by
  have c := Lib.hid (right_any hx hy)
  by_cases h : okT a b = true
  · have hb := okT_bd h
    have k1 := fun w => run_convert_float_int (P := Tryz.prog) w 101 2 .f64 .i64 x a (by kernel_rfl) Tryz.underlying2 (Fl.floatToInt_reads hx (by omega) (by omega))
    have k2 := fun w => run_convert_float_int (P := Tryz.prog) w 101 2 .f64 .i64 y b (by kernel_rfl) Tryz.underlying2 (Fl.floatToInt_reads hy (by omega) (by omega))
    rw [h, sel_true, sel_true]
    rw [show (okPart a && okPart b) = true from h] at c
    clear hx hy h hb
    go_enter Tryz.func88, Tryz.ntmps88
    go_wp2_with (go_at_call 78; refine (c.out _).mono ?_; rintro e w' ⟨rfl, rfl⟩)
    go_ret3
    exact ⟨rfl, rfl⟩
  · have h' : okT a b = false := by simpa using h
    rw [h', sel_false, sel_false]
    rw [show (okPart a && okPart b) = false from h'] at c
    clear hx hy h h'
    go_enter Tryz.func88, Tryz.ntmps88
    go_wp2_with (go_at_call 78; refine (c.out _).mono ?_; rintro e w' ⟨rfl, rfl⟩)
    go_ret3
    exact ⟨rfl, rfl⟩

theorem net_any {x y : Nat} {a b : Int} (hx : Fl.Reads x a) (hy : Fl.Reads y b) (w : World) :
    Calls Tryz.prog 47 #[.complex .f64 x y] w fun e w' => e = .returned (.int .i64 (netT a b)) ∧ w = w' := by
  have c := Lib.hid (parts_any hx hy)
  have hb : -1125899906842624 ≤ sel (okT a b) a - sel (okT a b) b ∧ sel (okT a b) a - sel (okT a b) b ≤ 1125899906842624 ∧ sel (okT a b) a - sel (okT a b) b = netT a b := by
    have := netT_bd a b
    unfold netT at *
    cases h : okT a b <;> simp [sel, h] at * <;> omega
  obtain ⟨h1, h2, h3⟩ := hb
  rw [← h3]
  clear hx hy h3
  go_enter Tryz.func47, Tryz.ntmps47
  go_wp2_with (go_at_call 88; refine (c.out _).mono ?_; rintro e w' ⟨rfl, rfl⟩)
  go_ret
  exact ⟨rfl, rfl⟩

theorem Of_any (a b : Int) (w : World) :
    Calls Tryz.prog 68 #[.int .i64 a, .int .i64 b] w fun e w' => e = .returned (.complex .f64 (Fl.F a) (Fl.F b)) ∧ w = w' := by
  go_enter Tryz.func68, Tryz.ntmps68
  go_wp2
  go_ret
  exact ⟨rfl, rfl⟩

def pos (n : Int) : Int := if 0 ≤ n then n else 0
theorem pos_bd (n : Int) : 0 ≤ pos n ∧ (0 ≤ n → pos n = n) ∧ (n ≤ 0 → pos n = 0) := by
  unfold pos; refine ⟨?_, ?_, ?_⟩ <;> intros <;> split <;> omega

set_option maxHeartbeats 400000 in
theorem of_any (n : Int) (w : World) (h1 : -4503599627370496 ≤ n) (h2 : n ≤ 4503599627370496) :
    Calls Tryz.prog 123 #[.int .i64 n] w fun e w' => e = .returned (.complex .f64 (Fl.F (pos n)) (Fl.F (pos (-n)))) ∧ w = w' := by
  obtain ⟨p0, p1, p2⟩ := pos_bd n
  obtain ⟨m0, m1, m2⟩ := pos_bd (-n)
  rcases Int.lt_trichotomy n 0 with h | h | h
  · rw [p2 (by omega), m1 (by omega)]
    clear p0 p1 p2 m0 m1 m2
    go_enter Tryz.func123, Tryz.ntmps123
    go_wp2_with (go_at_call 68; refine (Of_any _ _ _).mono ?_; rintro e w' ⟨rfl, rfl⟩)
    go_ret
    exact ⟨rfl, rfl⟩
  · subst h
    rw [p2 (by omega), m2 (by omega)]
    clear p0 p1 p2 m0 m1 m2 h1 h2
    go_enter Tryz.func123, Tryz.ntmps123
    go_wp2_with (go_at_call 68; refine (Of_any _ _ _).mono ?_; rintro e w' ⟨rfl, rfl⟩)
    go_ret
    exact ⟨rfl, rfl⟩
  · rw [p1 (by omega), m2 (by omega)]
    clear p0 p1 p2 m0 m1 m2
    go_enter Tryz.func123, Tryz.ntmps123
    go_wp2_with (go_at_call 68; refine (Of_any _ _ _).mono ?_; rintro e w' ⟨rfl, rfl⟩)
    go_ret
    exact ⟨rfl, rfl⟩

theorem reads_pos (n : Int) (h1 : -4503599627370496 ≤ n) (h2 : n ≤ 4503599627370496) : Fl.Reads (Fl.F (pos n)) (pos n) :=
  Fl.reads_F _ (by have := pos_bd n; omega)

set_option maxHeartbeats 400000 in
theorem reduce_any {x y : Nat} {a b : Int} (hx : Fl.Reads x a) (hy : Fl.Reads y b) (w : World) :
    Calls Tryz.prog 85 #[.complex .f64 x y] w fun e w' => e = .returned (.complex .f64 (Fl.F (pos (netT a b))) (Fl.F (pos (-netT a b)))) ∧ w = w' := by
  have c := Lib.hid (net_any hx hy)
  obtain ⟨h1, h2⟩ := netT_bd a b
  generalize netT a b = n at *
  clear hx hy
  go_enter Tryz.func85, Tryz.ntmps85
  go_wp2_with (first | (go_at_call 47; refine (c.out _).mono ?_; rintro e w' ⟨rfl, rfl⟩) | (go_at_call 123; refine (of_any n _ (by omega) (by omega)).mono ?_; rintro e w' ⟨rfl, rfl⟩))
  go_ret
  exact ⟨rfl, rfl⟩

def fitN (n : Int) : Bool := decide (-1125899906842624 ≤ n ∧ n ≤ 1125899906842624)

set_option maxHeartbeats 400000 in
theorem some_any (n : Int) (q : Bool) (w : World) (h1 : -4503599627370496 ≤ n) (h2 : n ≤ 4503599627370496) :
    Calls Tryz.prog 122 #[.int .i64 n, .bool q] w fun e w' =>
      e = .returned (.tuple #[.complex .f64 (Fl.F (pos (sel (q && fitN n) n))) (Fl.F (pos (-(sel (q && fitN n) n)))), .bool (q && fitN n)]) ∧ w = w' := by
  by_cases hf : fitN n = true
  · have hb : -1125899906842624 ≤ n ∧ n ≤ 1125899906842624 := by unfold fitN at hf; simpa using hf
    obtain ⟨h3, h4⟩ := hb
    rw [hf]
    clear hf
    cases q
    · rw [show (false && true) = false from rfl, sel_false, show pos 0 = 0 from rfl, show pos (-0) = 0 from rfl, F_zero]
      go_enter Tryz.func122, Tryz.ntmps122
      go_wp2
      go_ret2
      exact ⟨rfl, rfl⟩
    · rw [show (true && true) = true from rfl, sel_true]
      go_enter Tryz.func122, Tryz.ntmps122
      go_wp2_with (go_at_call 123; refine (of_any n _ (by omega) (by omega)).mono ?_; rintro e w' ⟨rfl, rfl⟩)
      go_ret2
      exact ⟨rfl, rfl⟩
  · have hf' : fitN n = false := by simpa using hf
    have hb : n < -1125899906842624 ∨ 1125899906842624 < n := by unfold fitN at hf; simp at hf; omega
    rw [hf', Bool.and_false, sel_false, show pos 0 = 0 from rfl, show pos (-0) = 0 from rfl, F_zero]
    clear hf hf'
    cases q <;> rcases hb with hb | hb
    all_goals
      go_enter Tryz.func122, Tryz.ntmps122
      go_wp2
      go_ret2
      exact ⟨rfl, rfl⟩

theorem flip_yes {x y : Nat} {a b : Int} (hx : Fl.Reads x a) (hy : Fl.Reads y b) (h : okT a b = true) (w : World) :
    Calls Tryz.prog 76 #[.complex .f64 x y] w fun e w' => e = .returned (.complex .f64 y x) ∧ w = w' := by
  have c := Lib.hid (right_any hx hy)
  rw [show (okPart a && okPart b) = true from h] at c
  clear hx hy h
  go_enter Tryz.func76, Tryz.ntmps76
  go_wp2_with (go_at_call 78; refine (c.out _).mono ?_; rintro e w' ⟨rfl, rfl⟩)
  go_ret
  exact ⟨rfl, rfl⟩

theorem flip_no {x y : Nat} {a b : Int} (hx : Fl.Reads x a) (hy : Fl.Reads y b) (h : okT a b = false) (w : World) :
    Calls Tryz.prog 76 #[.complex .f64 x y] w fun e w' => e = .returned (.complex .f64 0 0) ∧ w = w' := by
  have c := Lib.hid (right_any hx hy)
  rw [show (okPart a && okPart b) = false from h] at c
  clear hx hy h
  go_enter Tryz.func76, Tryz.ntmps76
  go_wp2_with (go_at_call 78; refine (c.out _).mono ?_; rintro e w' ⟨rfl, rfl⟩)
  go_ret
  exact ⟨rfl, rfl⟩

def addOk (a b c d : Int) : Bool := (okT a b && okT c d) && fitN (netT a b + netT c d)
def addN (a b c d : Int) : Int := sel (addOk a b c d) (netT a b + netT c d)

set_option maxHeartbeats 400000 in
theorem add_any {x y u v : Nat} {a b c d : Int} (hx : Fl.Reads x a) (hy : Fl.Reads y b) (hu : Fl.Reads u c) (hv : Fl.Reads v d) (w : World) :
    Calls Tryz.prog 83 #[.complex .f64 x y, .complex .f64 u v] w fun e w' =>
      e = .returned (.tuple #[.complex .f64 (Fl.F (pos (addN a b c d))) (Fl.F (pos (-(addN a b c d)))), .bool (addOk a b c d)]) ∧ w = w' := by
  have n1 := Lib.hid (net_any hx hy)
  have n2 := Lib.hid (net_any hu hv)
  have r1 := Lib.hid (right_any hx hy)
  have r2 := Lib.hid (right_any hu hv)
  obtain ⟨b1, b2⟩ := netT_bd a b
  obtain ⟨b3, b4⟩ := netT_bd c d
  unfold addN addOk
  change Hid (∀ w, Calls Tryz.prog 78 #[.complex .f64 x y] w fun e w' => e = .returned (.bool (okT a b)) ∧ w = w') at r1
  change Hid (∀ w, Calls Tryz.prog 78 #[.complex .f64 u v] w fun e w' => e = .returned (.bool (okT c d)) ∧ w = w') at r2
  generalize netT a b = n at *
  generalize netT c d = m at *
  generalize okT a b = p at *
  generalize okT c d = q at *
  clear hx hy hu hv
  cases p
  · rw [show (false && q && fitN (n + m)) = (false && fitN (n + m)) from rfl]
    go_enter Tryz.func83, Tryz.ntmps83
    go_wp2_with fail
    refine (n1.out _).mono ?_
    rintro e w' ⟨rfl, rfl⟩
    go_wp2_with fail
    refine (n2.out _).mono ?_
    rintro e w' ⟨rfl, rfl⟩
    go_wp2_with fail
    refine (r1.out _).mono ?_
    rintro e w' ⟨rfl, rfl⟩
    go_wp2_with fail
    refine (some_any (n + m) false _ (by omega) (by omega)).mono ?_
    rintro e w' ⟨rfl, rfl⟩
    go_wp2_with fail
    go_ret2
    exact ⟨rfl, rfl⟩
  · rw [show (true && q && fitN (n + m)) = (q && fitN (n + m)) from by rw [Bool.true_and]]
    go_enter Tryz.func83, Tryz.ntmps83
    go_wp2_with fail
    refine (n1.out _).mono ?_
    rintro e w' ⟨rfl, rfl⟩
    go_wp2_with fail
    refine (n2.out _).mono ?_
    rintro e w' ⟨rfl, rfl⟩
    go_wp2_with fail
    refine (r1.out _).mono ?_
    rintro e w' ⟨rfl, rfl⟩
    go_wp2_with fail
    refine (r2.out _).mono ?_
    rintro e w' ⟨rfl, rfl⟩
    go_wp2_with fail
    refine (some_any (n + m) q _ (by omega) (by omega)).mono ?_
    rintro e w' ⟨rfl, rfl⟩
    go_wp2_with fail
    go_ret2
    exact ⟨rfl, rfl⟩
end Go.Proofs.YtajnnkapgnmoaaaGreat
/-
  Items (a row, and how often) as they lie in memory. No program in sight.
-/
set_option linter.unusedVariables false
namespace Go.Proofs.YtajnnkapgnmoaaaGreat
open Go.RowKit

/-- an item: its row's address and capacity, its row, its net -/
structure IM where
  A : Option Addr
  c : Nat
  r : List V
  k : Int
def tal (k : Int) : Value := .complex .f64 (Fl.F (pos k)) (Fl.F (pos (-k)))
def IM.cs (x : IM) : List Value := [.slice x.A x.r.length x.c, tal x.k]
def IM.val (x : IM) : Value := .agg #[.slice x.A x.r.length x.c, tal x.k]
def IM.it (x : IM) : It := (x.r, x.k)
def its (l : List IM) : List It := l.map IM.it
def flatM (l : List IM) : List Value := l.flatMap IM.cs
theorem flatM_len (l : List IM) : (flatM l).length = l.length * 2 := by
  induction l with
  | nil => rfl
  | cons v l ih => show ((IM.cs v) ++ flatM l).length = _; simp [ih, IM.cs]; omega
theorem flatM_get (l : List IM) : ∀ (i : Nat) (v : IM), l[i]? = some v → (flatM l)[i * 2]? = some (.slice v.A v.r.length v.c) ∧ (flatM l)[i * 2 + 1]? = some (tal v.k) := by
  induction l with
  | nil => intro i v h; simp at h
  | cons x l ih =>
    intro i v h
    have e : flatM (x :: l) = IM.cs x ++ flatM l := rfl
    rw [e]
    cases i with
    | zero =>
      obtain rfl : x = v := by simpa using h
      exact ⟨rfl, rfl⟩
    | succ i =>
      have := ih i v (by simpa using h)
      have hl : (IM.cs x).length = 2 := rfl
      rw [List.getElem?_append_right (by omega), List.getElem?_append_right (by omega), hl]
      rw [show (i + 1) * 2 - 2 = i * 2 from by omega, show (i + 1) * 2 + 1 - 2 = i * 2 + 1 from by omega]
      exact this
theorem flatM_one (v : IM) : flatM [v] = IM.cs v := by simp [flatM]
theorem flatM_append (a b : List IM) : flatM (a ++ b) = flatM a ++ flatM b := by simp [flatM]
theorem flatM_ones (l : List IM) : ∀ u ∈ flatM l, u.oneCell' = true := by
  intro u hu
  obtain ⟨v, _, hv⟩ := List.mem_flatMap.1 hu
  simp only [IM.cs, List.mem_cons, List.not_mem_nil, or_false] at hv
  rcases hv with rfl | rfl <;> rfl
theorem flatM_split (l : List IM) (j : Nat) (u : Value) (h : (flatM l)[j]? = some u) : ∃ v : IM, l[j / 2]? = some v ∧ (flatM l)[j / 2 * 2 + j % 2]? = some u := by
  have hj : j < (flatM l).length := (List.getElem?_eq_some_iff.1 h).1
  rw [flatM_len] at hj
  exact ⟨l[j / 2]'(by omega), List.getElem?_eq_getElem (by omega), by rw [show j / 2 * 2 + j % 2 = j from by omega]; exact h⟩

/-- a slice at an address holds the values r, in a block of S -/
def VRowS (w : World) (S : Nat → Prop) (A : Option Addr) (r : List V) : Prop := r = [] ∨ ∃ b off, A = some ⟨b, off, none⟩ ∧ S b ∧ VAt w b off r
def IAt (w : World) (b off : Nat) (l : List IM) : Prop := ∀ i x, l[i]? = some x → w.cell? ⟨b, off + i * 2, none⟩ = some (.slice x.A x.r.length x.c) ∧ w.cell? ⟨b, off + i * 2 + 1, none⟩ = some (tal x.k)
/-- a slice at an address holds the items l; they, and their rows, lie in blocks of S -/
structure SRow (w : World) (S : Nat → Prop) (A : Option Addr) (l : List IM) : Prop where
  at_ : l = [] ∨ ∃ b off, A = some ⟨b, off, none⟩ ∧ S b ∧ IAt w b off l
  rows : ∀ x ∈ l, VRowS w S x.A x.r
section
variable {w w' : World} {S S' : Nat → Prop} {B b off : Nat} {A : Option Addr} {r : List V} {l : List IM}
theorem VAt.kept (h : VAt w b off r) (hk : w'.heap[b]? = w.heap[b]?) : VAt w' b off r := fun i v hv => by
  obtain ⟨h1, h2, h3⟩ := h i v hv
  have hc : ∀ o, w'.cell? ⟨b, o, none⟩ = w.cell? ⟨b, o, none⟩ := fun o => World.cell?_of_block hk
  exact ⟨(hc _).trans h1, (hc _).trans h2, (hc _).trans h3⟩
theorem IAt.kept (h : IAt w b off l) (hk : w'.heap[b]? = w.heap[b]?) : IAt w' b off l := fun i v hv => by
  obtain ⟨h1, h2⟩ := h i v hv
  have hc : ∀ o, w'.cell? ⟨b, o, none⟩ = w.cell? ⟨b, o, none⟩ := fun o => World.cell?_of_block hk
  exact ⟨(hc _).trans h1, (hc _).trans h2⟩
theorem VRowS.kept (h : VRowS w S A r) (hk : ∀ k, S k → w'.heap[k]? = w.heap[k]?) : VRowS w' S A r := by
  rcases h with h | ⟨b, o, hA, hS, h⟩
  · exact .inl h
  · exact .inr ⟨b, o, hA, hS, h.kept (hk b hS)⟩
theorem VRowS.mono (h : VRowS w S A r) (hS : ∀ k, S k → S' k) : VRowS w S' A r := by
  rcases h with h | ⟨b, o, hA, hb, h⟩
  · exact .inl h
  · exact .inr ⟨b, o, hA, hS b hb, h⟩
theorem VRowS.to (h : VRowS w S A r) (hS : ∀ k, S k → k < B) : VRow w B A r := by
  rcases h with h | ⟨b, o, hA, hb, h⟩
  · exact .inl h
  · exact .inr ⟨b, o, hA, hS b hb, h⟩
theorem SRow.kept (h : SRow w S A l) (hk : ∀ k, S k → w'.heap[k]? = w.heap[k]?) : SRow w' S A l :=
  ⟨by
    rcases h.at_ with h | ⟨b, o, hA, hS, h⟩
    · exact .inl h
    · exact .inr ⟨b, o, hA, hS, h.kept (hk b hS)⟩, fun x hx => (h.rows x hx).kept hk⟩
theorem SRow.mono (h : SRow w S A l) (hS : ∀ k, S k → S' k) : SRow w S' A l :=
  ⟨by
    rcases h.at_ with h | ⟨b, o, hA, hb, h⟩
    · exact .inl h
    · exact .inr ⟨b, o, hA, hS b hb, h⟩, fun x hx => (h.rows x hx).mono hS⟩
theorem SRow.below (h : SRow w S A l) (hb : Below B w w') (hS : ∀ k, S k → k < B) : SRow w' S A l := h.kept fun k hk => hb.block k (hS k hk)
theorem SRow.nil (A : Option Addr) : SRow w S A [] := ⟨.inl rfl, fun x h => by simp at h⟩
theorem SRow.get {i : Nat} {x : IM} (h : SRow w S A l) (hx : l[i]? = some x) : ∃ b off, A = some ⟨b, off, none⟩ ∧ S b ∧ w.cell? ⟨b, off + i * 2, none⟩ = some (.slice x.A x.r.length x.c) ∧ w.cell? ⟨b, off + i * 2 + 1, none⟩ = some (tal x.k) := by
  rcases h.at_ with rfl | ⟨b, off, hA, hS, h⟩
  · simp at hx
  · exact ⟨b, off, hA, hS, h i x hx⟩
theorem IAt.news (h : IAt w b off l) (j : Nat) (u : Value) (hu : (flatM l)[j]? = some u) : w.cell? ((⟨b, off, none⟩ : Addr).add j) = some u := by
  obtain ⟨v, hv, hf⟩ := flatM_split l j u hu
  obtain ⟨f1, f2⟩ := flatM_get l _ v hv
  obtain ⟨c1, c2⟩ := h _ v hv
  have e : (⟨b, off, none⟩ : Addr).add j = ⟨b, off + (j / 2 * 2 + j % 2), none⟩ := by
    unfold Addr.add
    split
    · subst_vars; rfl
    · rw [show j / 2 * 2 + j % 2 = j from by omega]
  rw [e]
  have : j % 2 = 0 ∨ j % 2 = 1 := by omega
  rcases this with h3 | h3 <;> rw [h3] at hf ⊢
  · rw [Nat.add_zero] at hf ⊢; rw [f1] at hf; rw [c1]; exact hf
  · rw [f2] at hf; rw [← Nat.add_assoc, c2]; exact hf
theorem SRow.reads (h : SRow w S A l) (hS : ∀ k, S k → k < B) : Reads w B 2 A l.length (flatM l) := by
  refine ⟨flatM_len l, fun hn => ?_⟩
  rcases h.at_ with rfl | ⟨b, off, hA, hb, h⟩
  · simp at hn
  · exact ⟨_, hA, hS b hb, h.news⟩
theorem VRow.reads (h : VRow w B A r) : Reads w B 3 A r.length (flat r) := by
  refine ⟨flat_len r, fun hn => ?_⟩
  rcases h with rfl | ⟨b, off, hA, hb, h⟩
  · simp at hn
  · exact ⟨_, hA, hb, h.news⟩
theorem ownM_below {B n : Nat} {e : TypeId} {z : Nat} {v : Value} {xs : List Value} (h : w.ownsRow B e z v n xs) (hb : Below w.heap.size w w') : w'.ownsRow B e z v n xs := by
  refine ⟨h.1, ?_⟩
  rcases h.2 with hn | ⟨g, cap, cur, rfl, hg, hgg, rest⟩
  · exact .inl hn
  · exact .inr ⟨g, cap, cur, rfl, hg, by rw [hb.block g (Array.getElem?_eq_some_iff.1 hgg).1]; exact hgg, rest⟩
/-- a block that the call has made, none of it frozen -/
def NewS (w w' : World) (k : Nat) : Prop := w.heap.size ≤ k ∧ k < w'.heap.size ∧ ∀ o, w'.frozen? ⟨k, o, none⟩ = false
theorem frozen_of_block {w w' : World} {k o : Nat} (h : w'.heap[k]? = w.heap[k]?) : w'.frozen? ⟨k, o, none⟩ = w.frozen? ⟨k, o, none⟩ := by
  simp only [World.frozen?, h]
theorem NewS.below {w w1 w2 : World} {k : Nat} (h : NewS w w1 k) (hb : Below w1.heap.size w1 w2) : NewS w w2 k :=
  ⟨h.1, Nat.lt_of_lt_of_le h.2.1 hb.size, fun o => (frozen_of_block (hb.block k h.2.1)).trans (h.2.2 o)⟩
theorem NewS.lower {w w1 w2 : World} {k : Nat} (h : NewS w1 w2 k) (hs : w.heap.size ≤ w1.heap.size) : NewS w w2 k := ⟨Nat.le_trans hs h.1, h.2⟩
/-- what is owned is a row of items -/
theorem own_items {base : Nat} {e : TypeId} {v : Value} (h : w.ownsRow base e 2 v l.length (flatM l)) (hS : ∀ g, base ≤ g → g < w.heap.size → (∀ o, w.frozen? ⟨g, o, none⟩ = false) → S g) (hr : ∀ x ∈ l, VRowS w S x.A x.r) :
    ∃ A c, v = .slice A l.length c ∧ l.length ≤ c ∧ SRow w S A l := by
  obtain ⟨_, hcase⟩ := id h
  rcases hcase with ⟨rfl, h0⟩ | ⟨g, cap, cur, rfl, hg, hh, hn, hcap, hsz, htake⟩
  · exact ⟨none, 0, by rw [h0], by omega, .inl (List.eq_nil_of_length_eq_zero h0), hr⟩
  · have hlt : g < w.heap.size := (Array.getElem?_eq_some_iff.1 hh).1
    refine ⟨some ⟨g, 0, none⟩, cap, rfl, hn, .inr ⟨g, 0, rfl, hS g hg hlt (fun o => h.frozenAt o), ?_⟩, hr⟩
    intro i x hx
    obtain ⟨f1, f2⟩ := flatM_get l i x hx
    have hi : i < l.length := (List.getElem?_eq_some_iff.1 hx).1
    rw [Nat.zero_add, h.cellAt _ (by omega), h.cellAt _ (by omega)]
    exact ⟨f1, f2⟩
/-- .. and a row of values -/
theorem own_vals {base : Nat} {e : TypeId} {v : Value} (h : w.ownsRow base e 3 v r.length (flat r)) (hS : ∀ g, base ≤ g → g < w.heap.size → (∀ o, w.frozen? ⟨g, o, none⟩ = false) → S g) :
    ∃ A c, v = .slice A r.length c ∧ r.length ≤ c ∧ VRowS w S A r := by
  rcases Nat.eq_zero_or_pos r.length with h0 | h0
  · obtain ⟨A, c, hv, hc, hr, _⟩ := own_row h
    exact ⟨A, c, hv, hc, .inl (List.eq_nil_of_length_eq_zero h0)⟩
  · obtain ⟨g, cap, hv, hc, hb, hlt, hA, hf⟩ := own_full h rfl h0
    exact ⟨_, cap, hv, hc, .inr ⟨g, 0, rfl, hS g hb hlt hf, hA⟩⟩
end
theorem its_append (a b : List IM) : its (a ++ b) = its a ++ its b := by simp [its]
theorem its_len (l : List IM) : (its l).length = l.length := by simp [its]
end Go.Proofs.YtajnnkapgnmoaaaGreat
/-
  Tallies of one part (a net): what package tally's functions give.
-/
namespace Go.Proofs.YtajnnkapgnmoaaaGreat
open Go.RowKit

def okN (k : Int) : Prop := -1125899906842624 ≤ k ∧ k ≤ 1125899906842624
theorem okN.reads {k : Int} (h : okN k) : Fl.Reads (Fl.F (pos k)) (pos k) ∧ Fl.Reads (Fl.F (pos (-k))) (pos (-k)) := by
  unfold okN at h
  exact ⟨reads_pos k (by omega) (by omega), reads_pos (-k) (by omega) (by omega)⟩
theorem okN.okT {k : Int} (h : okN k) : okT (pos k) (pos (-k)) = true := by
  unfold okN at h
  unfold Go.Proofs.YtajnnkapgnmoaaaGreat.okT okPart
  have h1 := pos_bd k
  have h2 := pos_bd (-k)
  rw [decide_eq_true (by omega), decide_eq_true (by omega)]
  rfl
theorem okN.net {k : Int} (h : okN k) : netT (pos k) (pos (-k)) = k := by
  unfold netT
  rw [h.okT]
  have h1 := pos_bd k
  have h2 := pos_bd (-k)
  simp only [sel, if_true]
  omega
theorem tal_right {k : Int} (h : okN k) (w : World) : Calls Tryz.prog 78 #[tal k] w fun e w' => e = .returned (.bool true) ∧ w = w' := by
  have := right_any h.reads.1 h.reads.2 w
  rw [show (okPart (pos k) && okPart (pos (-k))) = true from h.okT] at this
  exact this
theorem tal_net {k : Int} (h : okN k) (w : World) : Calls Tryz.prog 47 #[tal k] w fun e w' => e = .returned (.int .i64 k) ∧ w = w' := by
  have := net_any h.reads.1 h.reads.2 w
  rw [h.net] at this
  exact this
theorem tal_reduce {k : Int} (h : okN k) (w : World) : Calls Tryz.prog 85 #[tal k] w fun e w' => e = .returned (tal k) ∧ w = w' := by
  have := reduce_any h.reads.1 h.reads.2 w
  rw [h.net] at this
  exact this
theorem tal_add {a b : Int} (ha : okN a) (hb : okN b) (h : okN (a + b)) (w : World) : Calls Tryz.prog 83 #[tal a, tal b] w fun e w' => e = .returned (.tuple #[tal (a + b), .bool true]) ∧ w = w' := by
  have := add_any ha.reads.1 ha.reads.2 hb.reads.1 hb.reads.2 w
  have e1 : addOk (pos a) (pos (-a)) (pos b) (pos (-b)) = true := by
    unfold addOk
    rw [ha.okT, hb.okT, ha.net, hb.net]
    unfold fitN
    unfold okN at h
    rw [decide_eq_true h]
    rfl
  have e2 : addN (pos a) (pos (-a)) (pos b) (pos (-b)) = a + b := by
    unfold addN
    rw [e1, ha.net, hb.net]
    rfl
  rw [e1, e2] at this
  exact this
theorem tal_flip {k : Int} (h : okN k) (w : World) : Calls Tryz.prog 76 #[tal k] w fun e w' => e = .returned (tal (-k)) ∧ w = w' := by
  have := flip_yes h.reads.1 h.reads.2 h.okT w
  unfold tal
  rw [Int.neg_neg]
  exact this
theorem tal_of (a b : Int) (w : World) (h : (0 ≤ a ∧ b = 0) ∨ (a = 0 ∧ 0 ≤ b)) : Calls Tryz.prog 68 #[.int .i64 a, .int .i64 b] w fun e w' => e = .returned (tal (a - b)) ∧ w = w' := by
  have := Of_any a b w
  have h1 := pos_bd (a - b)
  have h2 := pos_bd (-(a - b))
  unfold tal
  rw [show pos (a - b) = a by omega, show pos (-(a - b)) = b by omega]
  exact this
theorem tal_zero : Value.complex .f64 0 0 = tal 0 := by
  unfold tal
  rw [show pos 0 = 0 from rfl, show pos (-0) = 0 from rfl, F_zero]
theorem order_pos {a b : Int} (ha : okN a) (hb : okN b) : ((FloatKind.f64.format.order (Fl.F (pos a)) (Fl.F (pos b)) == some .eq) && (FloatKind.f64.format.order (Fl.F (pos (-a))) (Fl.F (pos (-b))) == some .eq)) = decide (a = b) := by
  have h1 := pos_bd a
  have h2 := pos_bd (-a)
  have h3 := pos_bd b
  have h4 := pos_bd (-b)
  have o1 : FloatKind.f64.format.order (Fl.F (pos a)) (Fl.F (pos b)) = some (compare (pos a) (pos b)) := Fl.order_reads ha.reads.1 hb.reads.1
  have o2 : FloatKind.f64.format.order (Fl.F (pos (-a))) (Fl.F (pos (-b))) = some (compare (pos (-a)) (pos (-b))) := Fl.order_reads ha.reads.2 hb.reads.2
  rw [o1, o2]
  by_cases h : a = b
  · subst h
    have e1 : compare (pos a) (pos a) = .eq := Int.compare_eq_eq.2 rfl
    have e2 : compare (pos (-a)) (pos (-a)) = .eq := Int.compare_eq_eq.2 rfl
    rw [e1, e2, decide_eq_true rfl]
    rfl
  · rw [decide_eq_false h]
    by_cases hp : pos a = pos b
    · have hq : pos (-a) ≠ pos (-b) := by omega
      have : compare (pos (-a)) (pos (-b)) ≠ .eq := fun e => hq (Int.compare_eq_eq.1 e)
      have e2 : (some (compare (pos (-a)) (pos (-b))) == some Ordering.eq) = false := by
        cases hc : compare (pos (-a)) (pos (-b)) with
        | eq => exact absurd hc this
        | lt => rfl
        | gt => rfl
      rw [e2, Bool.and_false]
    · have : compare (pos a) (pos b) ≠ .eq := fun e => hp (Int.compare_eq_eq.1 e)
      have e2 : (some (compare (pos a) (pos b)) == some Ordering.eq) = false := by
        cases hc : compare (pos a) (pos b) with
        | eq => exact absurd hc this
        | lt => rfl
        | gt => rfl
      rw [e2, Bool.false_and]
theorem run_eq_tal {a b : Int} (ha : okN a) (hb : okN b) (t : TypeId) (P : Program) (w : World) : (binOp .eql t (tal a) (tal b)).run P w = .ok (.bool (decide (a = b))) w := by
  unfold tal
  rw [run_eql_complex, order_pos ha hb]
theorem run_ne_tal {a b : Int} (ha : okN a) (hb : okN b) (t : TypeId) (P : Program) (w : World) : (binOp .neq t (tal a) (tal b)).run P w = .ok (.bool (!decide (a = b))) w := by
  unfold tal
  rw [run_neq_complex, order_pos ha hb]
theorem run_ne_zero {a : Int} (ha : okN a) (t : TypeId) (P : Program) (w : World) : (binOp .neq t (tal a) (.complex .f64 0 0)).run P w = .ok (.bool (!decide (a = 0))) w := by
  rw [tal_zero]; exact run_ne_tal ha (by unfold okN; omega) t P w
theorem run_eq_zero {a : Int} (ha : okN a) (t : TypeId) (P : Program) (w : World) : (binOp .eql t (tal a) (.complex .f64 0 0)).run P w = .ok (.bool (decide (a = 0))) w := by
  rw [tal_zero]; exact run_eq_tal ha (by unfold okN; omega) t P w
theorem eqGuard_at_tal (op : BinOp) (t : TypeId) (x y : Operand) (k : Int) (v : Value) : eqGuard op t x y (tal k) v = pure () := eqGuard_at_complex ..
theorem run_store_tal (P : Program) (a : Addr) (k : Int) (m : Mode) (w : World) : (store a (tal k) m).run P w = stored P w a (tal k) m := run_store P w a _ m rfl
end Go.Proofs.YtajnnkapgnmoaaaGreat
/-
  Package confluencekeep's contracts: Num, Nums.
-/
namespace Go.Proofs.YtajnnkapgnmoaaaGreat
open Go.RowKit

theorem value_info : (Tryz.prog.info? 49).map (fun i => (i.zero, i.size, i.bytes)) = some (some (.agg #[.int .i64 0, .int .i64 0, .string ByteArray.empty]), 3, 32) := by kernel_rfl

theorem keep_num (n : Int) (w : World) :
    Calls Tryz.prog 14 #[.int .i64 n] w fun e w' => e = .returned (.agg #[.int .i64 1, .int .i64 n, .string ⟨#[]⟩]) ∧ w.alloc (.cells #[.int .i64 1, .int .i64 n, .string ⟨#[]⟩] 49) = w' := by
  go_enter Tryz.func14, Tryz.ntmps14
  go_wp2
  exact bodyPost_ret (v := .agg #[.int .i64 1, .int .i64 n, .string ⟨#[]⟩]) (by simp [results, Tryz.results14, go_sem]) rfl ⟨rfl, rfl⟩

def numV (n : Int) : V := ⟨1, n, ⟨#[]⟩⟩
/-- a new row -/
def NewRow (w : World) (l : List V) (e : Ending) (w' : World) : Prop := ∃ v, e = .returned v ∧ w'.ownsRow w.heap.size 49 3 v l.length (flat l) ∧ Below w.heap.size w w'

set_option maxHeartbeats 1000000 in
theorem nums_any (b o c : Nat) (zs : List Int) (n : Nat) (hz : zs.length = n) (hn : n ≤ 1000) (w : World) (hb : b < w.heap.size) (hc : ∀ k, k < n → w.cell? ⟨b, o + k, none⟩ = some (.int .i64 (zs.getD k 0))) :
    Calls Tryz.prog 27 #[.slice (some ⟨b, o, none⟩) n c] w (NewRow w (zs.map numV)) := by
  obtain ⟨i0, hi, hz0, hz1, hz2⟩ := info_parts value_info
  have HC := Lib.hid hc
  have HZ := Lib.hid hz
  clear hc hz
  go_enter Tryz.func27, Tryz.ntmps27
  go_wp2_with fail
  go_loopw [3, 4] (fun v i wr => ∃ k : Nat, k ≤ n ∧ i = .int .i64 k ∧ wr.ownsRow w.heap.size 49 3 v k (flat ((zs.map numV).take k)) ∧ Below w.heap.size w wr) (fun _ i _ => n - (intOf i).toNat)
  case atStart => exact ⟨0, Nat.zero_le _, rfl, World.ownsRow_nil _ _ _ _, Below.refl _ _⟩
  case round =>
    obtain ⟨k, hk, rfl, hown, hbl⟩ := hrel
    have HO := Lib.hid hown
    have HB := Lib.hid hbl
    have hs := hbl.size
    clear hown
    by_cases hlt : k < n
    · have hcell := (hbl.cell hb).trans (HC.out k hlt)
      have hsn := Lib.hid (flat_snoc (l := zs.map numV) (k := k) (v := numV (zs.getD k 0)) (by rw [List.getElem?_map, List.getElem?_eq_getElem (by rw [HZ.out]; exact hlt), List.getD_eq_getElem?_getD, List.getElem?_eq_getElem (by rw [HZ.out]; exact hlt)]; rfl))
      generalize zs.getD k 0 = x at *
      clear hbl
      go_wp2_with fail
      refine (keep_num x _).mono ?_
      rintro e w' ⟨rfl, rfl⟩
      go_wp2_with (at_builtin; refine wpList_append_own _ rfl _ _ 26 rfl w.heap.size 49 i0 _ 3 32 Tryz.underlying26 hi hz0 hz1 hz2 rfl (by decide) _ _ _ rfl ((HO.out.alloc _).alloc _) ⟨wr.heap.size + 1, 0, none⟩ 1 1 (V.cs (numV x)) rfl rfl ?c1 ?c2 ?c3 ?c4 ?c5 ?_)
      case c1 =>
        intro j u hj
        match j, hj with
        | 0, hj => simp [V.cs] at hj; subst hj; simp [Addr.add, numV]
        | 1, hj => simp [V.cs] at hj; subst hj; simp [Addr.add, numV]
        | 2, hj => simp [V.cs] at hj; subst hj; simp [Addr.add, numV]
      case c2 => rw [← flat_one]; exact flat_ones _
      case c3 => unfold maxLen; omega
      case c4 => omega
      case c5 => simp; omega
      intro v' w1 hown' hgrow _
      have ho2 : w1.ownsRow w.heap.size 49 3 v' (k + 1) (flat ((zs.map numV).take (k + 1))) := by rw [hsn.out]; exact hown'
      have hb2 := ((HB.out.alloc hs _).alloc (by simp; omega) _).grown hgrow (by simp; omega) (fun g hg => (HO.out.lt g hg).1)
      clear hown' hgrow hcell
      go_wp2_with fail
      go_roundw
      case rel => exact ⟨k + 1, by omega, by go_num, ho2, hb2⟩
      case measure => simp [intOf]; omega
    · clear hbl
      go_wp2_with fail
      go_ret
      obtain rfl : k = n := by omega
      have ho := HO.out
      rw [List.take_of_length_le (by simp [HZ.out])] at ho
      exact ⟨_, rfl, by simpa [HZ.out] using ho, HB.out⟩

end Go.Proofs.YtajnnkapgnmoaaaGreat
/-
  Package confluencekeep's contract: Str.
-/
namespace Go.Proofs.YtajnnkapgnmoaaaGreat
open Go.RowKit
theorem keep_str (s : ByteArray) (w : World) :
    Calls Tryz.prog 20 #[.string s] w fun e w' => e = .returned (.agg #[.int .i64 2, .int .i64 0, .string s]) ∧ w.alloc (.cells #[.int .i64 2, .int .i64 0, .string s] 49) = w' := by
  go_enter Tryz.func20, Tryz.ntmps20
  go_wp2
  exact bodyPost_ret (v := .agg #[.int .i64 2, .int .i64 0, .string s]) (by simp [results, Tryz.results20, go_sem]) rfl ⟨rfl, rfl⟩

end Go.Proofs.YtajnnkapgnmoaaaGreat
/-
  Package confluencekeep: T, U, One, Tame.
-/
set_option linter.unusedVariables false
set_option linter.unusedSimpArgs false
namespace Go.Proofs.YtajnnkapgnmoaaaGreat
open Go.RowKit

def uC : List C := [⟨⟨#[97]⟩, 1⟩, ⟨⟨#[99]⟩, 1⟩]
def tC : List C := [⟨⟨#[97]⟩, 1⟩, ⟨⟨#[98]⟩, 1⟩, ⟨⟨#[115]⟩, 2⟩]
theorem keepB_U (w : World) : Calls Tryz.prog 24 #[] w fun e w' => e = .returned (.slice (some ⟨w.heap.size, 0, none⟩) 2 2) ∧ w.alloc (.cells #[.string ⟨#[97]⟩, .int .i64 1, .string ⟨#[99]⟩, .int .i64 1] 100) = w' := by
  go_enter Tryz.func24, Tryz.ntmps24
  go_wp2_with fail
  go_ret
  exact ⟨rfl, rfl⟩
theorem keepB_T (w : World) : Calls Tryz.prog 25 #[] w fun e w' => e = .returned (.slice (some ⟨w.heap.size, 0, none⟩) 3 3) ∧ w.alloc (.cells #[.string ⟨#[97]⟩, .int .i64 1, .string ⟨#[98]⟩, .int .i64 1, .string ⟨#[115]⟩, .int .i64 2] 100) = w' := by
  go_enter Tryz.func25, Tryz.ntmps25
  go_wp2_with fail
  go_ret
  exact ⟨rfl, rfl⟩
/-- a set of one row, so often -/
theorem keep_one (n : Int) (A : Option Addr) (m c : Nat) (w : World) (h1 : -9223372036854775807 ≤ n) (h2 : n ≤ 9223372036854775807) :
    Calls Tryz.prog 26 #[.int .i64 n, .slice A m c] w fun e w' => e = .returned (.slice (some ⟨w.heap.size, 0, none⟩) 1 1) ∧ w.alloc (.cells #[.slice A m c, tal n] 47) = w' := by
  have hp := pos_bd n
  have hq := pos_bd (-n)
  have e0 : (0 : Nat) = Fl.F 0 := F_zero.symm
  by_cases h : n < 0
  · have et : tal n = .complex .f64 0 (floatOfInt .f64 (-n)) := by
      unfold tal
      rw [show pos n = 0 by omega, show pos (-n) = -n by omega, F_zero]
      rfl
    rw [et]
    clear hp hq e0 et
    go_enter Tryz.func26, Tryz.ntmps26
    go_wp2_with fail
    go_ret
    exact ⟨rfl, rfl⟩
  · have et : tal n = .complex .f64 (floatOfInt .f64 n) 0 := by
      unfold tal
      rw [show pos n = n by omega, show pos (-n) = 0 by omega, F_zero]
      rfl
    rw [et]
    clear hp hq e0 et
    go_enter Tryz.func26, Tryz.ntmps26
    go_wp2_with fail
    go_ret
    exact ⟨rfl, rfl⟩
def tS (s : ByteArray) : V := ⟨2, 0, s⟩
def tame0 (r : List V) : Int := match r with
  | [] => 0
  | x :: _ => x.n.tmod 4
def tame1 (r : List V) : Int := match r with
  | _ :: y :: _ => y.n.tmod 4
  | _ => 0
def tame2 (r : List V) : ByteArray := match r with
  | _ :: y :: _ => if 2 < y.s.size then y.s.extract 0 2 else y.s
  | _ => ⟨#[]⟩
def nmT : ByteArray := ⟨#[116]⟩
def nmU : ByteArray := ⟨#[117]⟩
/-- a change of t or u with small values: its table, its row -/
def tameK (nm : ByteArray) (r : List V) : ByteArray × List V := if nm.size % 2 = 0 then (nmT, [numV (tame0 r), numV (tame1 r), tS (tame2 r)]) else (nmU, [numV (tame0 r), numV (tame1 r)])
def rowCells (l : List V) : Array Value := (flat l).toArray
end Go.Proofs.YtajnnkapgnmoaaaGreat
