/-
  Package confluenceref3 at tallies of one part (a net): Of, Parts, Net, of, Reduce, Flip, Add.
-/
import Derived.Test.YtajnnkapgnmoaaaGreatMs2
import Derived.Test.YtajnnkapgnmoaaaGreatMs1
import Derived.StillTailTactics
import Derived.Orders
import Derived.Below
import Derived.KernelRfl
set_option linter.unusedVariables false
set_option linter.unusedSimpArgs false
set_option linter.unusedVariables false
set_option linter.unusedSimpArgs false
namespace Go.Proofs.YtajnnkapgnmoaaaGreat
open Go.RowKit

theorem ref3_Of (a b : Int) (w : World) :
    Calls Tryz.prog 50 #[.int .i64 a, .int .i64 b] w fun e w' => e = .returned (.complex .f64 (Fl.F a) (Fl.F b)) ∧ w = w' := by
  go_enter Tryz.func50, Tryz.ntmps50
  go_wp2
  go_ret
  exact ⟨rfl, rfl⟩
set_option maxHeartbeats 1000000 in
theorem ref3_parts {a b : Int} (ha : 0 ≤ a ∧ a ≤ 1125899906842624) (hb : 0 ≤ b ∧ b ≤ 1125899906842624) (w : World) :
    Calls Tryz.prog 56 #[.complex .f64 (Fl.F a) (Fl.F b)] w fun e w' => e = .returned (.tuple #[.int .i64 a, .int .i64 b, .bool true]) ∧ w = w' := by
  have hx := Fl.reads_F a (by omega)
  have hy := Fl.reads_F b (by omega)
  have k1 := fun w => run_convert_float_int (P := Tryz.prog) w 101 2 .f64 .i64 (Fl.F a) a (by kernel_rfl) Tryz.underlying2 (Fl.floatToInt_reads hx (by omega) (by omega))
  have k2 := fun w => run_convert_float_int (P := Tryz.prog) w 101 2 .f64 .i64 (Fl.F b) b (by kernel_rfl) Tryz.underlying2 (Fl.floatToInt_reads hy (by omega) (by omega))
  have g1 : ∃ o1, FloatKind.f64.format.order (Fl.F a) 0 = some o1 ∧ o1 ≠ .lt := ⟨_, Fl.order_reads hx reads_zero, fun e => by have := Int.compare_eq_lt.1 e; omega⟩
  have g2 : ∃ o1, FloatKind.f64.format.order (Fl.F b) 0 = some o1 ∧ o1 ≠ .lt := ⟨_, Fl.order_reads hy reads_zero, fun e => by have := Int.compare_eq_lt.1 e; omega⟩
  have g3 : ∃ o1, FloatKind.f64.format.order (Fl.F a) 4832362400168542208 = some o1 ∧ o1 ≠ .gt := ⟨_, Fl.order_reads hx reads_most, fun e => by have := Int.compare_eq_gt.1 e; omega⟩
  have g4 : ∃ o1, FloatKind.f64.format.order (Fl.F b) 4832362400168542208 = some o1 ∧ o1 ≠ .gt := ⟨_, Fl.order_reads hy reads_most, fun e => by have := Int.compare_eq_gt.1 e; omega⟩
  have f5 : FloatKind.f64.format.order (floatOfInt .f64 a) (Fl.F a) = some .eq := order_of hx hx (Int.compare_eq_eq.2 rfl)
  have f6 : FloatKind.f64.format.order (floatOfInt .f64 b) (Fl.F b) = some .eq := order_of hy hy (Int.compare_eq_eq.2 rfl)
  obtain ⟨o1, f1, n1⟩ := g1
  obtain ⟨o2, f2, n2⟩ := g2
  obtain ⟨o3, f3, n3⟩ := g3
  obtain ⟨o4, f4, n4⟩ := g4
  clear hx hy
  generalize Fl.F a = x at *
  generalize Fl.F b = y at *
  cases o1 <;> first | exact absurd rfl n1 | skip
  all_goals (cases o2 <;> first | exact absurd rfl n2 | skip)
  all_goals (cases o3 <;> first | exact absurd rfl n3 | skip)
  all_goals (cases o4 <;> first | exact absurd rfl n4 | skip)
  all_goals
    clear n1 n2 n3 n4 ha hb
    go_enter Tryz.func56, Tryz.ntmps56
    go_wp2
    go_ret3
    exact ⟨rfl, rfl⟩
theorem okN.pos {k : Int} (h : okN k) : (0 ≤ pos k ∧ pos k ≤ 1125899906842624) ∧ (0 ≤ pos (-k) ∧ pos (-k) ≤ 1125899906842624) ∧ pos k - pos (-k) = k := by
  unfold okN at h
  have h1 := pos_bd k
  have h2 := pos_bd (-k)
  omega
theorem rf_parts {k : Int} (h : okN k) (w : World) : Calls Tryz.prog 56 #[tal k] w fun e w' => e = .returned (.tuple #[.int .i64 (pos k), .int .i64 (pos (-k)), .bool true]) ∧ w = w' :=
  ref3_parts h.pos.1 h.pos.2.1 w
theorem rf_net {k : Int} (h : okN k) (w : World) : Calls Tryz.prog 94 #[tal k] w fun e w' => e = .returned (.int .i64 k) ∧ w = w' := by
  have c := Lib.hid (rf_parts h)
  obtain ⟨h1, h2, h3⟩ := h.pos
  have e : Hid (pos k - pos (-k) = k) := Lib.hid h3
  generalize pos k = a at *
  generalize pos (-k) = b at *
  generalize tal k = t at *
  clear h h3
  go_enter Tryz.func94, Tryz.ntmps94
  go_wp2_with (go_at_call 56; refine (c.out _).mono ?_; rintro e w' ⟨rfl, rfl⟩)
  go_ret
  exact ⟨by rw [← e.out]; rfl, rfl⟩
theorem rf_of {k : Int} (h : okN k) (w : World) : Calls Tryz.prog 97 #[.int .i64 k] w fun e w' => e = .returned (.tuple #[tal k, .bool true]) ∧ w = w' := by
  unfold okN at h
  obtain ⟨p0, p1, p2⟩ := pos_bd k
  obtain ⟨m0, m1, m2⟩ := pos_bd (-k)
  unfold tal
  by_cases h0 : k < 0
  · rw [p2 (by omega), m1 (by omega)]
    have c := Lib.hid (ref3_Of 0 (-k))
    clear p0 p1 p2 m0 m1 m2
    go_enter Tryz.func97, Tryz.ntmps97
    go_wp2_with (go_at_call 50; refine (c.out _).mono ?_; rintro e w' ⟨rfl, rfl⟩)
    go_ret2
    exact ⟨rfl, rfl⟩
  · rw [p1 (by omega), m2 (by omega)]
    have c := Lib.hid (ref3_Of k 0)
    clear p0 p1 p2 m0 m1 m2
    go_enter Tryz.func97, Tryz.ntmps97
    go_wp2_with (go_at_call 50; refine (c.out _).mono ?_; rintro e w' ⟨rfl, rfl⟩)
    go_ret2
    exact ⟨rfl, rfl⟩
theorem rf_reduce {k : Int} (h : okN k) (w : World) : Calls Tryz.prog 61 #[tal k] w fun e w' => e = .returned (tal k) ∧ w = w' := by
  have c := Lib.hid (rf_net h)
  have d := Lib.hid (rf_of h)
  generalize tal k = t at *
  clear h
  go_enter Tryz.func61, Tryz.ntmps61
  go_wp2_with (first | (go_at_call 94; refine (c.out _).mono ?_; rintro e w' ⟨rfl, rfl⟩) | (go_at_call 97; refine (d.out _).mono ?_; rintro e w' ⟨rfl, rfl⟩))
  go_ret
  exact ⟨rfl, rfl⟩
set_option maxHeartbeats 400000 in
theorem rf_flip {k : Int} (h : okN k) (w : World) : Calls Tryz.prog 95 #[tal k] w fun e w' => e = .returned (tal (-k)) ∧ w = w' := by
  have c := Lib.hid (rf_parts h)
  have d := Lib.hid (fun w => ref3_Of (pos (-k)) (pos k) w)
  have et : tal (-k) = .complex .f64 (Fl.F (pos (-k))) (Fl.F (pos k)) := by unfold tal; rw [Int.neg_neg]
  rw [et]
  generalize pos k = a at *
  generalize pos (-k) = b at *
  generalize tal k = t at *
  clear h et
  go_enter Tryz.func95, Tryz.ntmps95
  go_wp2_with (first | (go_at_call 56; refine (c.out _).mono ?_; rintro e w' ⟨rfl, rfl⟩) | (go_at_call 50; refine (d.out _).mono ?_; rintro e w' ⟨rfl, rfl⟩))
  go_ret
  exact ⟨rfl, rfl⟩
set_option maxHeartbeats 400000 in
theorem rf_add {a b : Int} (ha : okN a) (hb : okN b) (h : okN (a + b)) (w : World) : Calls Tryz.prog 60 #[tal a, tal b] w fun e w' => e = .returned (.tuple #[tal (a + b), .bool true]) ∧ w = w' := by
  have p1 := Lib.hid (rf_parts ha)
  have p2 := Lib.hid (rf_parts hb)
  have n1 := Lib.hid (rf_net ha)
  have n2 := Lib.hid (rf_net hb)
  have o := Lib.hid (rf_of h)
  unfold okN at ha hb
  generalize tal (a + b) = t at *
  generalize tal a = u at *
  generalize tal b = v at *
  generalize pos a = q1 at *
  generalize pos (-a) = q2 at *
  generalize pos b = q3 at *
  generalize pos (-b) = q4 at *
  clear h
  go_enter Tryz.func60, Tryz.ntmps60
  go_wp2_with fail
  refine (p1.out _).mono ?_
  rintro e w' ⟨rfl, rfl⟩
  go_wp2_with fail
  refine (p2.out _).mono ?_
  rintro e w' ⟨rfl, rfl⟩
  go_wp2_with fail
  refine (n1.out _).mono ?_
  rintro e w' ⟨rfl, rfl⟩
  go_wp2_with fail
  refine (n2.out _).mono ?_
  rintro e w' ⟨rfl, rfl⟩
  go_wp2_with fail
  refine (o.out _).mono ?_
  rintro e w' ⟨rfl, rfl⟩
  go_wp2_with fail
  go_ret2
  exact ⟨rfl, rfl⟩
end Go.Proofs.YtajnnkapgnmoaaaGreat
/-
  Package confluenceref4's Right and Less: the same values as value's.
-/
namespace Go.Proofs.YtajnnkapgnmoaaaGreat
open Go.RowKit
set_option maxHeartbeats 400000 in
theorem ref4_right (k n : Int) (s : ByteArray) (w : World) :
    Calls Tryz.prog 92 #[.agg #[.int .i64 k, .int .i64 n, .string s]] w fun e w' =>
      e = .returned (.bool (V.okB ⟨k, n, s⟩)) ∧ w.alloc (.cells #[.int .i64 k, .int .i64 n, .string s] 49) = w' := by
  by_cases h1 : (k == 1) = true
  · have h12 : (k == 2) = false := by simp at h1 ⊢; omega
    by_cases he : s.toList = []
    · have hr : V.okB ⟨k, n, s⟩ = true := by simp [V.okB, h1, he]
      have he2 : s.toList.isEmpty = true := by rw [he]; rfl
      rw [hr]
      clear hr
      go_enter Tryz.func92, Tryz.ntmps92
      go_wp2
      go_ret
      exact ⟨rfl, rfl⟩
    · have he2 : s.toList.isEmpty = false := by simpa using he
      have hr : V.okB ⟨k, n, s⟩ = false := by simp [V.okB, h12, he]
      rw [hr]
      clear hr he
      go_enter Tryz.func92, Tryz.ntmps92
      go_wp2
      go_ret
      exact ⟨rfl, rfl⟩
  · have h1' : (k == 1) = false := by simpa using h1
    clear h1
    by_cases h2 : (k == 2) = true
    · by_cases h3 : n = 0
      · subst h3
        have hr : V.okB ⟨k, 0, s⟩ = decide ((s.size : Int) ≤ 40) := by simp [V.okB, h1', h2]
        rw [hr]
        clear hr
        go_enter Tryz.func92, Tryz.ntmps92
        go_wp2
        go_ret
        exact ⟨rfl, rfl⟩
      · have hr : V.okB ⟨k, n, s⟩ = false := by simp [V.okB, h1', h3]
        have h3' : (n == 0) = false := by simpa using h3
        rw [hr]
        clear hr h3
        go_enter Tryz.func92, Tryz.ntmps92
        go_wp2
        go_ret
        exact ⟨rfl, rfl⟩
    · have h2' : (k == 2) = false := by simpa using h2
      clear h2
      have hr : V.okB ⟨k, n, s⟩ = false := by simp [V.okB, h1', h2']
      rw [hr]
      clear hr
      go_enter Tryz.func92, Tryz.ntmps92
      go_wp2
      go_ret
      exact ⟨rfl, rfl⟩
set_option maxHeartbeats 400000 in
theorem ref4_less (k n : Int) (s : ByteArray) (k2 n2 : Int) (s2 : ByteArray) (w : World) :
    Calls Tryz.prog 96 #[.agg #[.int .i64 k, .int .i64 n, .string s], .agg #[.int .i64 k2, .int .i64 n2, .string s2]] w fun e w' =>
      e = .returned (.bool (V.lt ⟨k, n, s⟩ ⟨k2, n2, s2⟩)) ∧ Below w.heap.size w w' := by
  have hr1 := Lib.hid (ref4_right k n s)
  have hr2 := Lib.hid (ref4_right k2 n2 s2)
  unfold V.lt
  generalize V.okB ⟨k, n, s⟩ = q at *
  generalize V.okB ⟨k2, n2, s2⟩ = q2 at *
  cases q
  · rw [Bool.false_and, Bool.false_and]
    clear hr2
    go_enter Tryz.func96, Tryz.ntmps96
    go_wp2_with fail
    refine (hr1.out _).mono ?_
    rintro e w' ⟨rfl, rfl⟩
    go_wp2_with fail
    go_ret
    exact ⟨rfl, by repeat (first | exact Below.refl _ _ | refine Below.alloc ?_ (by simp <;> omega) _)⟩
  · cases q2
    · rw [Bool.and_false, Bool.false_and]
      go_enter Tryz.func96, Tryz.ntmps96
      go_wp2_with fail
      refine (hr1.out _).mono ?_
      rintro e w' ⟨rfl, rfl⟩
      go_wp2_with fail
      refine (hr2.out _).mono ?_
      rintro e w' ⟨rfl, rfl⟩
      go_wp2_with fail
      go_ret
      exact ⟨rfl, by repeat (first | exact Below.refl _ _ | refine Below.alloc ?_ (by simp <;> omega) _)⟩
    · rw [Bool.and_self, Bool.true_and]
      by_cases h1 : (k != k2) = true
      · have e0 : V.ltIn ⟨k, n, s⟩ ⟨k2, n2, s2⟩ = (k == 1) := if_pos h1
        rw [e0]
        clear e0
        go_enter Tryz.func96, Tryz.ntmps96
        go_wp2_with fail
        refine (hr1.out _).mono ?_
        rintro e w' ⟨rfl, rfl⟩
        go_wp2_with fail
        refine (hr2.out _).mono ?_
        rintro e w' ⟨rfl, rfl⟩
        go_wp2_with fail
        go_ret
        exact ⟨rfl, by repeat (first | exact Below.refl _ _ | refine Below.alloc ?_ (by simp <;> omega) _)⟩
      · have h1' : (k != k2) = false := by simpa using h1
        by_cases h2 : (k == 1) = true
        · have e0 : V.ltIn ⟨k, n, s⟩ ⟨k2, n2, s2⟩ = decide (n < n2) := (if_neg h1).trans (if_pos h2)
          rw [e0]
          clear e0 h1
          go_enter Tryz.func96, Tryz.ntmps96
          go_wp2_with fail
          refine (hr1.out _).mono ?_
          rintro e w' ⟨rfl, rfl⟩
          go_wp2_with fail
          refine (hr2.out _).mono ?_
          rintro e w' ⟨rfl, rfl⟩
          go_wp2_with fail
          go_ret
          exact ⟨rfl, by repeat (first | exact Below.refl _ _ | refine Below.alloc ?_ (by simp <;> omega) _)⟩
        · have h2' : (k == 1) = false := by simpa using h2
          have e0 : V.ltIn ⟨k, n, s⟩ ⟨k2, n2, s2⟩ = Op.bytesLess s.toList s2.toList := (if_neg h1).trans (if_neg h2)
          rw [e0]
          clear e0 h1 h2
          go_enter Tryz.func96, Tryz.ntmps96
          go_wp2_with fail
          refine (hr1.out _).mono ?_
          rintro e w' ⟨rfl, rfl⟩
          go_wp2_with fail
          refine (hr2.out _).mono ?_
          rintro e w' ⟨rfl, rfl⟩
          go_wp2_with fail
          go_ret
          exact ⟨rfl, by repeat (first | exact Below.refl _ _ | refine Below.alloc ?_ (by simp <;> omega) _)⟩

end Go.Proofs.YtajnnkapgnmoaaaGreat
/-
  Package confluenceref5's Right, Less, Same: the same values as row's.
-/
namespace Go.Proofs.YtajnnkapgnmoaaaGreat
open Go.RowKit
/-- where a row's values stand, while the world grows -/
def VGet (w : World) (A : Option Addr) (l : List V) : Prop := ∀ w1, Below w.heap.size w w1 → ∀ k v, l[k]? = some v → ∃ b o, A = some ⟨b, o, none⟩ ∧ b < w.heap.size ∧
  w1.cell? ⟨b, o + k * 3, none⟩ = some (.int .i64 v.k) ∧ w1.cell? ⟨b, o + k * 3 + 1, none⟩ = some (.int .i64 v.n) ∧ w1.cell? ⟨b, o + k * 3 + 2, none⟩ = some (.string v.s)
theorem VRow.get_ {w : World} {A : Option Addr} {l : List V} (h : VRow w w.heap.size A l) : VGet w A l := by
  intro w1 hb k v hv
  rcases h with rfl | ⟨b, o, rfl, hlt, hA⟩
  · simp at hv
  · exact ⟨b, o, rfl, hlt, hA.below hb hlt k v hv⟩
theorem all_step {l : List V} {k : Nat} {v : V} (hv : l[k]? = some v) : (l.drop k).all V.okB = (V.okB v && (l.drop (k + 1)).all V.okB) := by
  obtain ⟨h1, e1⟩ := List.getElem?_eq_some_iff.1 hv
  rw [List.drop_eq_getElem_cons h1, e1]
  rfl
set_option maxHeartbeats 400000 in
theorem ref5_right (A : Option Addr) (c : Nat) (l : List V) (hn : l.length ≤ 9223372036854775807) (w : World) (hA : VRow w w.heap.size A l) :
    Calls Tryz.prog 57 #[.slice A l.length c] w fun e w' => e = .returned (.bool (rowOk l)) ∧ Below w.heap.size w w' := by
  have HA := Lib.hid hA.get_
  obtain ⟨n, en⟩ : ∃ n, n = l.length := ⟨_, rfl⟩
  have hr : Hid (rowOk l = if l.all V.okB then (decide ((1 : Int) ≤ n) && decide ((n : Int) ≤ 6)) else false) := Lib.hid (by
    unfold rowOk
    rw [← en]
    have a1 : decide (0 < n) = decide ((1 : Int) ≤ n) := by rw [decide_eq_decide]; omega
    have a2 : decide (n ≤ 6) = decide ((n : Int) ≤ 6) := by rw [decide_eq_decide]; omega
    rw [a1, a2]
    cases l.all V.okB
    · rw [Bool.and_false, if_neg (by decide)]
    · rw [Bool.and_true, if_pos rfl])
  have Hn := Lib.hid en
  rw [← en] at hn ⊢
  clear hA en
  go_enter Tryz.func57, Tryz.ntmps57
  go_wp2_with fail
  go_loopw [3] (fun i wr => ∃ k : Nat, k ≤ n ∧ i = .int .i64 k ∧ Below w.heap.size w wr ∧ Hid (l.all V.okB = (l.drop k).all V.okB)) (fun i _ => n - (intOf i).toNat)
  case atStart => exact ⟨0, Nat.zero_le _, rfl, Below.refl _ _, rfl⟩
  case round =>
    obtain ⟨k, hk, rfl, hb, hz⟩ := hrel
    have HB := Lib.hid hb
    by_cases hlt : k < n
    · obtain ⟨v, hv⟩ : ∃ v, l[k]? = some v := ⟨_, List.getElem?_eq_getElem (by rw [← Hn.out]; exact hlt)⟩
      obtain ⟨b, o, rfl, hbl, v1, v2, v3⟩ := HA.out wr hb k v hv
      have hst := Lib.hid (hz.out.trans (all_step hv))
      clear hv hz hb
      obtain ⟨vk, vn, vs⟩ := v
      have hi0 : (0 : Int) ≤ (k : Int) := by omega
      have hi1 : (k : Int) < (n : Int) := by omega
      have hq := Lib.hid (ref4_right vk vn vs)
      cases hok : V.okB ⟨vk, vn, vs⟩
      · rw [hok] at hst hq
        have hf : Hid (rowOk l = false) := Lib.hid (by rw [hr.out, hst.out]; rfl)
        clear hst hok
        go_wp2_with fail
        refine (hq.out _).mono ?_
        rintro e w' ⟨rfl, rfl⟩
        go_wp2_with fail
        go_ret
        exact ⟨by rw [hf.out]; rfl, HB.out.alloc HB.out.size _⟩
      · rw [hok, Bool.true_and] at hst
        rw [hok] at hq
        clear hok
        go_wp2_with fail
        refine (hq.out _).mono ?_
        rintro e w' ⟨rfl, rfl⟩
        go_wp2_with fail
        go_roundw
        case rel => exact ⟨k + 1, by omega, by go_num, HB.out.alloc HB.out.size _, hst⟩
        case measure => simp [intOf]; omega
    · have hall : Hid (rowOk l = (decide ((1 : Int) ≤ n) && decide ((n : Int) ≤ 6))) := Lib.hid (by
        have := hz.out
        rw [List.drop_of_length_le (by rw [← Hn.out]; omega)] at this
        rw [hr.out, this]
        rfl)
      clear hz hr
      by_cases h1 : (1 : Int) ≤ n
      · have d1 : decide ((1 : Int) ≤ n) = true := decide_eq_true h1
        rw [d1, Bool.true_and] at hall
        go_wp2_with fail
        go_ret
        exact ⟨by rw [hall.out]; rfl, HB.out⟩
      · have d1 : decide ((1 : Int) ≤ n) = false := decide_eq_false h1
        rw [d1, Bool.false_and] at hall
        go_wp2_with fail
        go_ret
        exact ⟨by rw [hall.out]; rfl, HB.out⟩

/-- two rows, held against one another from a place on, as the document does it -/
def refLt : List V → List V → Bool
  | a :: x, b :: y => if V.lt a b then true else if V.lt b a then false else refLt x y
  | [], _ :: _ => true
  | _, _ => false
theorem refLt_cmp : ∀ a b : List V, refLt a b = decide (cmpR a b < 0)
  | [], [] => rfl
  | [], _ :: _ => rfl
  | _ :: _, [] => rfl
  | a :: x, b :: y => by
    have h := refLt_cmp x y
    unfold refLt
    have e : cmpR (a :: x) (b :: y) = if (V.cmp a b != 0) = true then V.cmp a b else cmpR x y := rfl
    rw [e, h]
    unfold V.cmp
    cases V.lt a b <;> cases V.lt b a <;> simp
theorem refLt_step {a b : List V} {k : Nat} {x y : V} (hx : a[k]? = some x) (hy : b[k]? = some y) : refLt (a.drop k) (b.drop k) = if V.lt x y then true else if V.lt y x then false else refLt (a.drop (k + 1)) (b.drop (k + 1)) := by
  obtain ⟨h1, e1⟩ := List.getElem?_eq_some_iff.1 hx
  obtain ⟨h2, e2⟩ := List.getElem?_eq_some_iff.1 hy
  rw [List.drop_eq_getElem_cons h1, List.drop_eq_getElem_cons h2, e1, e2]
  rfl
theorem refLt_end {a b : List V} {k : Nat} (h : a.length ≤ k ∨ b.length ≤ k) (ha : k ≤ a.length) (hb : k ≤ b.length) : refLt (a.drop k) (b.drop k) = decide (a.length < b.length) := by
  by_cases h1 : k < b.length
  · have e : a.length = k := by omega
    rw [List.drop_of_length_le (l := a) (by omega), List.drop_eq_getElem_cons h1]
    rw [decide_eq_true (by omega)]
    rfl
  · rw [List.drop_of_length_le (l := b) (by omega), decide_eq_false (by omega)]
    cases a.drop k <;> rfl
set_option maxHeartbeats 1000000 in
set_option maxRecDepth 100000 in
theorem ref5_less_in (A D : Option Addr) (c d : Nat) (a b : List V) (ha : a.length ≤ 9223372036854775807) (hb : b.length ≤ 9223372036854775807) (w : World) (hA : VRow w w.heap.size A a) (hD : VRow w w.heap.size D b) :
    Calls Tryz.prog 58 #[.slice A a.length c, .slice D b.length d] w fun e w' => e = .returned (.bool (rowLess a b)) ∧ Below w.heap.size w w' := by
  have HA := Lib.hid hA.get_
  have HD := Lib.hid hD.get_
  have h1 := Lib.hid (ref5_right A c a ha w hA)
  have h2 : Hid (∀ w1, Below w.heap.size w w1 → Calls Tryz.prog 57 #[.slice D b.length d] w1 fun e w' => e = .returned (.bool (rowOk b)) ∧ Below w1.heap.size w1 w') :=
    Lib.hid fun w1 hb1 => ref5_right D d b hb w1 ((hD.below hb1).more hb1.size)
  unfold rowLess
  rw [← refLt_cmp]
  have hend : Hid (∀ k, (a.length ≤ k ∨ b.length ≤ k) → k ≤ a.length → k ≤ b.length → refLt (a.drop k) (b.drop k) = decide (a.length < b.length)) := Lib.hid fun k => refLt_end
  obtain ⟨n, en⟩ : ∃ n, n = a.length := ⟨_, rfl⟩
  obtain ⟨m, em⟩ : ∃ m, m = b.length := ⟨_, rfl⟩
  have Hn := Lib.hid en
  have Hm := Lib.hid em
  rw [← en] at ha h1 hend ⊢
  rw [← em] at hb h2 hend ⊢
  clear hA hD en em
  generalize rowOk a = p at *
  generalize rowOk b = q at *
  cases p
  · rw [Bool.false_and, Bool.false_and]
    go_enter Tryz.func58, Tryz.ntmps58
    go_wp2_with fail
    refine h1.out.mono ?_
    rintro e w1 ⟨rfl, hb1⟩
    have HB := Lib.hid hb1
    clear hb1
    go_wp2_with fail
    go_ret
    exact ⟨rfl, HB.out⟩
  cases q
  · rw [Bool.and_false, Bool.false_and]
    go_enter Tryz.func58, Tryz.ntmps58
    go_wp2_with fail
    refine h1.out.mono ?_
    rintro e w1 ⟨rfl, hb1⟩
    have HB := Lib.hid hb1
    clear hb1
    go_wp2_with fail
    refine (h2.out _ HB.out).mono ?_
    rintro e w2 ⟨rfl, hb2⟩
    have HB2 := Lib.hid (HB.out.trans (hb2.mono HB.out.size))
    clear hb2
    go_wp2_with fail
    go_ret
    exact ⟨rfl, HB2.out⟩
  rw [Bool.and_self, Bool.true_and]
  go_enter Tryz.func58, Tryz.ntmps58
  go_wp2_with fail
  refine h1.out.mono ?_
  rintro e w1 ⟨rfl, hb1⟩
  have HB := Lib.hid hb1
  clear hb1
  go_wp2_with fail
  refine (h2.out _ HB.out).mono ?_
  rintro e w2 ⟨rfl, hb2⟩
  have HB2 := Lib.hid (HB.out.trans (hb2.mono HB.out.size))
  clear hb2 h1 h2 HB
  go_wp2_with fail
  go_loopw [5] (fun i wr => ∃ k : Nat, k ≤ n ∧ k ≤ m ∧ i = .int .i64 k ∧ Below w.heap.size w wr ∧ Hid (refLt a b = refLt (a.drop k) (b.drop k))) (fun i _ => n - (intOf i).toNat)
  case atStart => exact ⟨0, Nat.zero_le _, Nat.zero_le _, rfl, HB2.out, rfl⟩
  case round =>
    obtain ⟨k, hk, hkm, rfl, hb, hz⟩ := hrel
    have HB := Lib.hid hb
    clear HB2
    by_cases hlt : k < n ∧ k < m
    · obtain ⟨hlt, hlm⟩ := hlt
      obtain ⟨x, hx⟩ : ∃ x, a[k]? = some x := ⟨_, List.getElem?_eq_getElem (by rw [← Hn.out]; exact hlt)⟩
      obtain ⟨y, hy⟩ : ∃ y, b[k]? = some y := ⟨_, List.getElem?_eq_getElem (by rw [← Hm.out]; exact hlm)⟩
      have hst := Lib.hid (hz.out.trans (refLt_step hx hy))
      obtain ⟨ab, ao, rfl, hab, _⟩ := HA.out wr hb k x hx
      obtain ⟨bb, bo, rfl, hbb, _⟩ := HD.out wr hb k y hy
      have hcells : Hid (∀ w1, Below w.heap.size w w1 → (w1.cell? ⟨ab, ao + k * 3, none⟩ = some (.int .i64 x.k) ∧ w1.cell? ⟨ab, ao + k * 3 + 1, none⟩ = some (.int .i64 x.n) ∧ w1.cell? ⟨ab, ao + k * 3 + 2, none⟩ = some (.string x.s)) ∧
          (w1.cell? ⟨bb, bo + k * 3, none⟩ = some (.int .i64 y.k) ∧ w1.cell? ⟨bb, bo + k * 3 + 1, none⟩ = some (.int .i64 y.n) ∧ w1.cell? ⟨bb, bo + k * 3 + 2, none⟩ = some (.string y.s))) := Lib.hid fun w1 h1 => by
        obtain ⟨_, _, e1, _, g1⟩ := HA.out w1 h1 k x hx
        obtain ⟨_, _, e2, _, g2⟩ := HD.out w1 h1 k y hy
        cases e1
        cases e2
        exact ⟨g1, g2⟩
      clear hx hy hz hb
      obtain ⟨xk, xn, xs⟩ := x
      obtain ⟨yk, yn, ys⟩ := y
      have hi0 : (0 : Int) ≤ (k : Int) := by omega
      have hi1 : (k : Int) < (n : Int) := by omega
      have hi2 : (k : Int) < (m : Int) := by omega
      obtain ⟨⟨v1, v2, v3⟩, ⟨u1, u2, u3⟩⟩ := hcells.out wr HB.out
      have hq1 := Lib.hid (ref4_less xk xn xs yk yn ys)
      have hq2 := Lib.hid (ref4_less yk yn ys xk xn xs)
      generalize V.lt ⟨xk, xn, xs⟩ ⟨yk, yn, ys⟩ = lt1 at *
      generalize V.lt ⟨yk, yn, ys⟩ ⟨xk, xn, xs⟩ = lt2 at *
      cases lt1
      · cases lt2
        · have hst : Hid (refLt a b = refLt (a.drop (k + 1)) (b.drop (k + 1))) := hst
          go_wp2_with fail
          go_still_tail 8, (by kernel_rfl)
          change wpList _ _ _ _ _ wr.drew
          go_wp2_with fail
          refine (hq1.out _).mono ?_
          rintro e w3 ⟨rfl, hb3⟩
          have B3 := Lib.hid (HB.out.drew.trans (hb3.mono HB.out.size))
          clear hb3
          obtain ⟨⟨v1, v2, v3⟩, ⟨u1, u2, u3⟩⟩ := hcells.out w3 B3.out
          go_wp2_with fail
          go_still_tail 8, (by kernel_rfl)
          change wpList _ _ _ _ _ w3.drew
          go_wp2_with fail
          refine (hq2.out _).mono ?_
          rintro e w4 ⟨rfl, hb4⟩
          have B4 := Lib.hid (B3.out.drew.trans (hb4.mono B3.out.size))
          clear hb4
          go_wp2_with fail
          go_roundw
          case rel => exact ⟨k + 1, by omega, by omega, by go_num, B4.out, hst⟩
          case measure => simp [intOf]; omega
        · have hst : Hid (refLt a b = false) := hst
          go_wp2_with fail
          go_still_tail 8, (by kernel_rfl)
          change wpList _ _ _ _ _ wr.drew
          go_wp2_with fail
          refine (hq1.out _).mono ?_
          rintro e w3 ⟨rfl, hb3⟩
          have B3 := Lib.hid (HB.out.drew.trans (hb3.mono HB.out.size))
          clear hb3
          obtain ⟨⟨v1, v2, v3⟩, ⟨u1, u2, u3⟩⟩ := hcells.out w3 B3.out
          go_wp2_with fail
          go_still_tail 8, (by kernel_rfl)
          change wpList _ _ _ _ _ w3.drew
          go_wp2_with fail
          refine (hq2.out _).mono ?_
          rintro e w4 ⟨rfl, hb4⟩
          have B4 := Lib.hid (B3.out.drew.trans (hb4.mono B3.out.size))
          clear hb4
          go_wp2_with fail
          go_ret
          exact ⟨by rw [hst.out]; rfl, B4.out⟩
      · have hst : Hid (refLt a b = true) := hst
        go_wp2_with fail
        go_still_tail 8, (by kernel_rfl)
        change wpList _ _ _ _ _ wr.drew
        go_wp2_with fail
        refine (hq1.out _).mono ?_
        rintro e w3 ⟨rfl, hb3⟩
        have B3 := Lib.hid (HB.out.drew.trans (hb3.mono HB.out.size))
        clear hb3
        go_wp2_with fail
        go_ret
        exact ⟨by rw [hst.out]; rfl, B3.out⟩
    · have hf : Hid (refLt a b = decide (n < m)) := Lib.hid (hz.out.trans (hend.out k (by omega) hk hkm))
      clear hz
      by_cases h1 : k < n
      · have h2 : ¬ k < m := by omega
        go_wp2_with fail
        go_ret
        exact ⟨by rw [hf.out]; rfl, HB.out⟩
      · go_wp2_with fail
        go_ret
        exact ⟨by rw [hf.out]; rfl, HB.out⟩
end Go.Proofs.YtajnnkapgnmoaaaGreat
/-
  Package confluenceref5's Same: the same value as row's.
-/
namespace Go.Proofs.YtajnnkapgnmoaaaGreat
open Go.RowKit
theorem refSame_eq (a b : List V) : rowSame a b = ((((rowOk a && rowOk b) && !rowLess a b) && !rowLess b a) && (a.length == b.length)) := by
  unfold rowSame rowLess
  cases ha : rowOk a
  · simp
  cases hb : rowOk b
  · simp
  rcases cmpR_tri a b (rowOk_all ha) (rowOk_all hb) with ⟨h1, h2, _⟩ | ⟨h1, h2, _⟩ | ⟨h1, h2, h3⟩
  · rw [h1, h2]; simp
  · rw [h1, h2]; simp
  · rw [h1, h2, h3]; simp
set_option maxHeartbeats 1000000 in
theorem ref5_same (A D : Option Addr) (c d : Nat) (a b : List V) (ha : a.length ≤ 9223372036854775807) (hb : b.length ≤ 9223372036854775807) (w : World) (hA : VRow w w.heap.size A a) (hD : VRow w w.heap.size D b) :
    Calls Tryz.prog 59 #[.slice A a.length c, .slice D b.length d] w fun e w' => e = .returned (.bool (rowSame a b)) ∧ Below w.heap.size w w' := by
  have h1 := Lib.hid (ref5_right A c a ha w hA)
  have h2 : Hid (∀ w1, Below w.heap.size w w1 → Calls Tryz.prog 57 #[.slice D b.length d] w1 fun e w' => e = .returned (.bool (rowOk b)) ∧ Below w1.heap.size w1 w') :=
    Lib.hid fun w1 hb1 => ref5_right D d b hb w1 ((hD.below hb1).more hb1.size)
  have h3 : Hid (∀ w1, Below w.heap.size w w1 → Calls Tryz.prog 58 #[.slice A a.length c, .slice D b.length d] w1 fun e w' => e = .returned (.bool (rowLess a b)) ∧ Below w1.heap.size w1 w') :=
    Lib.hid fun w1 hb1 => ref5_less_in A D c d a b ha hb w1 ((hA.below hb1).more hb1.size) ((hD.below hb1).more hb1.size)
  have h4 : Hid (∀ w1, Below w.heap.size w w1 → Calls Tryz.prog 58 #[.slice D b.length d, .slice A a.length c] w1 fun e w' => e = .returned (.bool (rowLess b a)) ∧ Below w1.heap.size w1 w') :=
    Lib.hid fun w1 hb1 => ref5_less_in D A d c b a hb ha w1 ((hD.below hb1).more hb1.size) ((hA.below hb1).more hb1.size)
  rw [refSame_eq]
  clear hA hD
  generalize rowOk a = p at *
  generalize rowOk b = q at *
  generalize rowLess a b = la at *
  generalize rowLess b a = lb at *
  generalize a.length = n at *
  generalize b.length = m at *
  cases p
  · simp only [Bool.false_and]
    go_enter Tryz.func59, Tryz.ntmps59
    go_wp2_with fail
    refine h1.out.mono ?_
    rintro e w1 ⟨rfl, b1⟩
    have B1 := Lib.hid b1
    clear b1
    go_wp2_with fail
    go_ret
    exact ⟨rfl, B1.out⟩
  cases q
  · simp only [Bool.false_and, Bool.and_false]
    go_enter Tryz.func59, Tryz.ntmps59
    go_wp2_with fail
    refine h1.out.mono ?_
    rintro e w1 ⟨rfl, b1⟩
    have B1 := Lib.hid b1
    clear b1
    go_wp2_with fail
    refine (h2.out _ B1.out).mono ?_
    rintro e w2 ⟨rfl, b2⟩
    have B2 := Lib.hid (B1.out.trans (b2.mono B1.out.size))
    clear b2
    go_wp2_with fail
    go_ret
    exact ⟨rfl, B2.out⟩
  simp only [Bool.true_and]
  cases la
  · simp only [Bool.not_false, Bool.true_and]
    cases lb
    · simp only [Bool.not_false, Bool.true_and]
      have hc : Hid ((n == m) = ((n : Int) == (m : Int))) := Lib.hid (by rw [Bool.eq_iff_iff, beq_iff_eq, beq_iff_eq]; omega)
      go_enter Tryz.func59, Tryz.ntmps59
      go_wp2_with fail
      refine h1.out.mono ?_
      rintro e w1 ⟨rfl, b1⟩
      have B1 := Lib.hid b1
      clear b1
      go_wp2_with fail
      refine (h2.out _ B1.out).mono ?_
      rintro e w2 ⟨rfl, b2⟩
      have B2 := Lib.hid (B1.out.trans (b2.mono B1.out.size))
      clear b2
      go_wp2_with fail
      refine (h3.out _ B2.out).mono ?_
      rintro e w3 ⟨rfl, b3⟩
      have B3 := Lib.hid (B2.out.trans (b3.mono B2.out.size))
      clear b3
      go_wp2_with fail
      refine (h4.out _ B3.out).mono ?_
      rintro e w4 ⟨rfl, b4⟩
      have B4 := Lib.hid (B3.out.trans (b4.mono B3.out.size))
      clear b4
      go_wp2_with fail
      go_ret
      exact ⟨by first | rfl | (rw [hc.out]; done) | (rw [hc.out]; rfl), B4.out⟩
    · simp only [Bool.not_true, Bool.false_and]
      go_enter Tryz.func59, Tryz.ntmps59
      go_wp2_with fail
      refine h1.out.mono ?_
      rintro e w1 ⟨rfl, b1⟩
      have B1 := Lib.hid b1
      clear b1
      go_wp2_with fail
      refine (h2.out _ B1.out).mono ?_
      rintro e w2 ⟨rfl, b2⟩
      have B2 := Lib.hid (B1.out.trans (b2.mono B1.out.size))
      clear b2
      go_wp2_with fail
      refine (h3.out _ B2.out).mono ?_
      rintro e w3 ⟨rfl, b3⟩
      have B3 := Lib.hid (B2.out.trans (b3.mono B2.out.size))
      clear b3
      go_wp2_with fail
      refine (h4.out _ B3.out).mono ?_
      rintro e w4 ⟨rfl, b4⟩
      have B4 := Lib.hid (B3.out.trans (b4.mono B3.out.size))
      clear b4
      go_wp2_with fail
      go_ret
      exact ⟨rfl, B4.out⟩
  · simp only [Bool.not_true, Bool.false_and]
    go_enter Tryz.func59, Tryz.ntmps59
    go_wp2_with fail
    refine h1.out.mono ?_
    rintro e w1 ⟨rfl, b1⟩
    have B1 := Lib.hid b1
    clear b1
    go_wp2_with fail
    refine (h2.out _ B1.out).mono ?_
    rintro e w2 ⟨rfl, b2⟩
    have B2 := Lib.hid (B1.out.trans (b2.mono B1.out.size))
    clear b2
    go_wp2_with fail
    refine (h3.out _ B2.out).mono ?_
    rintro e w3 ⟨rfl, b3⟩
    have B3 := Lib.hid (B2.out.trans (b3.mono B2.out.size))
    clear b3
    go_wp2_with fail
    go_ret
    exact ⟨rfl, B3.out⟩

end Go.Proofs.YtajnnkapgnmoaaaGreat
/-
  A region that draws its order, each operation looked at once: what it leaves in its slot stays so; in every order all of it is there at the end. No program in sight.
-/
set_option linter.unusedVariables false
namespace Go.Proofs.YtajnnkapgnmoaaaGreat
namespace EachKit
open Go.RowKit

/-! ### what is ahead of an operation -/
def listNat : List Nat → Nat → Nat
  | [], _ => 0
  | n :: _, 0 => n
  | _ :: l, n + 1 => listNat l n
def preE (acc : List Nat) : List Edge → Nat
  | [] => 0
  | e :: l => match Region.binds .any e with
    | true => (2 ^ e.on ||| listNat acc e.on) ||| preE acc l
    | false => preE acc l
def pres : List Oper → List Nat → List Nat
  | [], acc => acc
  | o :: l, acc => pres l (acc ++ [preE acc o.after.toList])
def dirE (k : Nat) : List Edge → Bool
  | [] => false
  | e :: l => match Region.binds .any e && Nat.beq e.on k with
    | true => true
    | false => dirE k l
def edgesOk (i : Nat) : List Edge → Bool
  | [] => true
  | e :: l => match Region.binds .any e, Nat.blt e.on i with
    | true, false => false
    | _, _ => edgesOk i l
def dstOk (o : Oper) (i : Nat) (looks : List Tmp) : List Oper → Nat → Bool
  | [], _ => true
  | p :: l, k => match Nat.beq k i || match p.dst with
      | none => true
      | some d => (match o.dst with
          | some e => !(Nat.beq d e)
          | none => true) && (!(looks.contains d) || dirE k o.after.toList || dirE i p.after.toList) with
    | true => dstOk o i looks l (Nat.succ k)
    | false => false
def allOk (ops : Array Oper) : List Oper → Nat → Bool
  | [], _ => true
  | o :: l, i => match edgesOk i o.after.toList && dstOk o i (o.looksAt ops) ops.toList 0 && (match o.op with
      | .select .. => false
      | _ => true) with
    | true => allOk ops l (Nat.succ i)
    | false => false
def drawOk (ops : Array Oper) : Bool := allOk ops ops.toList 0
theorem listNat_get : ∀ (l : List Nat) (i m : Nat), l[i]? = some m → listNat l i = m
  | [], i, m, h => by simp at h
  | x :: l, 0, m, h => by simpa [listNat] using h
  | x :: l, i + 1, m, h => by rw [listNat]; exact listNat_get l i m (by simpa using h)
theorem preE_spec (acc : List Nat) : ∀ (l : List Edge) (j : Nat), (preE acc l).testBit j = true → ∃ e ∈ l, Region.binds .any e = true ∧ (j = e.on ∨ (listNat acc e.on).testBit j = true)
  | [], j, h => by simp [preE] at h
  | e :: l, j, h => by
    rw [preE] at h
    cases hb : Region.binds .any e with
    | true =>
      rw [hb] at h
      simp only [Nat.testBit_or, Bool.or_eq_true] at h
      rcases h with (h | h) | h
      · rw [Nat.testBit_two_pow] at h
        exact ⟨e, List.mem_cons_self, hb, .inl (by have := of_decide_eq_true h; omega)⟩
      · exact ⟨e, List.mem_cons_self, hb, .inr h⟩
      · obtain ⟨e', he, h'⟩ := preE_spec acc l j h
        exact ⟨e', List.mem_cons_of_mem _ he, h'⟩
    | false =>
      rw [hb] at h
      obtain ⟨e', he, h'⟩ := preE_spec acc l j h
      exact ⟨e', List.mem_cons_of_mem _ he, h'⟩
theorem pres_spec : ∀ (l : List Oper) (acc : List Nat), ∃ new, pres l acc = acc ++ new ∧ new.length = l.length ∧ ∀ (k : Nat) o, l[k]? = some o → new[k]? = some (preE (acc ++ new.take k) o.after.toList)
  | [], acc => ⟨[], by simp [pres], rfl, fun k o h => by simp at h⟩
  | o :: l, acc => by
    obtain ⟨new, h1, h2, h3⟩ := pres_spec l (acc ++ [preE acc o.after.toList])
    refine ⟨preE acc o.after.toList :: new, by rw [pres, h1]; simp, by simp [h2], fun k p hp => ?_⟩
    cases k with
    | zero => simp at hp; subst hp; simp
    | succ k =>
      have := h3 k p (by simpa using hp)
      simpa using this
theorem pres_get (ops : Array Oper) {k : Nat} {o : Oper} (h : ops[k]? = some o) :
    (pres ops.toList [])[k]? = some (preE ((pres ops.toList []).take k) o.after.toList) := by
  obtain ⟨new, h1, h2, h3⟩ := pres_spec ops.toList []
  have := h3 k o (by simpa using h)
  rw [h1]
  simpa using this
theorem dirE_mem {k : Nat} : ∀ {l : List Edge}, dirE k l = true → ∃ e ∈ l, Region.binds .any e = true ∧ e.on = k
  | [], h => by simp [dirE] at h
  | x :: l, h => by
    rw [dirE] at h
    cases hc : Region.binds .any x && Nat.beq x.on k with
    | true =>
      rw [Bool.and_eq_true, Nat.beq_eq] at hc
      exact ⟨x, List.mem_cons_self, hc.1, hc.2⟩
    | false =>
      rw [hc] at h
      obtain ⟨e, he, h'⟩ := dirE_mem h
      exact ⟨e, List.mem_cons_of_mem _ he, h'⟩
theorem edgesOk_mem {i : Nat} : ∀ {l : List Edge}, edgesOk i l = true → ∀ e ∈ l, Region.binds .any e = true → e.on < i
  | [], _, e, h, _ => by simp at h
  | x :: l, hh, e, h, hb => by
    rw [edgesOk] at hh
    rcases List.mem_cons.1 h with rfl | h
    · cases hx : Nat.blt e.on i with
      | false => rw [hb, hx] at hh; simp at hh
      | true => simpa [Nat.blt_eq] using hx
    · split at hh
      · simp at hh
      · exact edgesOk_mem hh e h hb
theorem dstOk_spec {o : Oper} {i : Nat} {looks : List Tmp} : ∀ {l : List Oper} {k : Nat}, dstOk o i looks l k = true → ∀ (j : Nat) p d, l[j]? = some p → k + j ≠ i → p.dst = some d →
    o.dst ≠ some d ∧ (d ∈ looks → (∃ e ∈ o.after, Region.binds .any e = true ∧ e.on = k + j) ∨ (∃ e ∈ p.after, Region.binds .any e = true ∧ e.on = i))
  | [], k, _, j, p, d, h, _, _ => by simp at h
  | q :: l, k, hh, j, p, d, h, hne, hd => by
    rw [dstOk] at hh
    split at hh
    · rename_i hc
      cases j with
      | zero =>
        simp at h
        subst h
        rw [Bool.or_eq_true, Nat.beq_eq] at hc
        rcases hc with hc | hc
        · omega
        · rw [hd] at hc
          simp only [Bool.and_eq_true, Bool.or_eq_true] at hc
          obtain ⟨c1, c2⟩ := hc
          refine ⟨?_, fun hl => ?_⟩
          · intro e
            rw [e] at c1
            simp at c1
          · rcases c2 with (c2 | c2) | c2
            · simp at c2; exact absurd hl c2
            · obtain ⟨e, he, h'⟩ := dirE_mem c2; exact .inl ⟨e, by simpa using he, h'⟩
            · obtain ⟨e, he, h'⟩ := dirE_mem c2; exact .inr ⟨e, by simpa using he, h'⟩
      | succ j =>
        have := dstOk_spec hh j p d (by simpa using h) (by omega) hd
        rw [show k + (j + 1) = k.succ + j from by omega]
        exact this
    · simp at hh
theorem allOk_spec {ops : Array Oper} : ∀ {l : List Oper} {k : Nat}, allOk ops l k = true → ∀ (j : Nat) o, l[j]? = some o →
    edgesOk (k + j) o.after.toList = true ∧ dstOk o (k + j) (o.looksAt ops) ops.toList 0 = true ∧ ∀ cs b, o.op ≠ .select cs b
  | [], k, _, j, o, h => by simp at h
  | q :: l, k, hh, j, o, h => by
    rw [allOk] at hh
    split at hh
    · rename_i hc
      cases j with
      | zero =>
        simp at h
        subst h
        simp only [Bool.and_eq_true] at hc
        refine ⟨hc.1.1, hc.1.2, fun cs b e => ?_⟩
        rw [e] at hc
        simp at hc
      | succ j =>
        have := allOk_spec hh j o (by simpa using h)
        rw [show k + (j + 1) = k.succ + j from by omega]
        exact this
    · simp at hh
theorem pre_closed {ops : Array Oper} (hok : drawOk ops = true) {S : Nat → Prop} (hS : ∀ j o, S j → ops[j]? = some o → ∀ e ∈ o.after, Region.binds .any e = true → S e.on) :
    ∀ (i : Nat) (o : Oper) (m : Nat), ops[i]? = some o → (pres ops.toList [])[i]? = some m → (∀ e ∈ o.after, Region.binds .any e = true → S e.on) → ∀ j, m.testBit j = true → S j ∧ j < i := by
  intro i
  induction i using Nat.strongRecOn with
  | _ i ih =>
    intro o m ho hm hpre j hj
    rw [pres_get ops ho] at hm
    obtain rfl := Option.some.inj hm
    obtain ⟨e, he, hb, h⟩ := preE_spec _ _ _ hj
    have hlt : e.on < i := by
      have := (allOk_spec hok i o (by simpa using ho)).1
      rw [Nat.zero_add] at this
      exact edgesOk_mem this e he hb
    have hSe := hpre e (by simpa using he) hb
    rcases h with rfl | h
    · exact ⟨hSe, hlt⟩
    · have hi : i < ops.size := (Array.getElem?_eq_some_iff.1 ho).1
      have hoe : ops[e.on]? = some ops[e.on] := Array.getElem?_eq_getElem (by omega)
      have hme := pres_get ops hoe
      have h2 : ((pres ops.toList []).take i)[e.on]? = some (preE ((pres ops.toList []).take e.on) ops[e.on].after.toList) := by
        rw [List.getElem?_take, if_pos hlt]; exact hme
      rw [listNat_get _ _ _ h2] at h
      obtain ⟨h3, h4⟩ := ih e.on hlt _ _ hoe hme (hS e.on _ hSe hoe) j h
      exact ⟨h3, by omega⟩
theorem getD_lt {listed : Array Bool} {j : Nat} (h : listed.getD j false = true) : j < listed.size := by
  rcases Nat.lt_or_ge j listed.size with h' | h'
  · exact h'
  · rw [Array.getD_eq_getD_getElem?, Array.getElem?_eq_none h'] at h; simp at h
theorem getD_tf {listed : Array Bool} {j : Nat} (h : j < listed.size) (b b' : Bool) : listed.getD j b = listed.getD j b' := by
  simp [Array.getD_eq_getD_getElem?, h]
def unl (listed : Array Bool) : Nat := (listed.toList.filter fun b => !b).length
theorem filter_set : ∀ (l : List Bool) (i : Nat), l[i]? = some false → ((l.set i true).filter fun b => !b).length + 1 = (l.filter fun b => !b).length
  | [], i, h => by simp at h
  | b :: l, 0, h => by simp at h; subst h; simp
  | b :: l, i + 1, h => by
    have := filter_set l i (by simpa using h)
    cases b <;> simp <;> omega
theorem unl_set {listed : Array Bool} {i : Nat} (h : listed.getD i true = false) : unl (listed.setIfInBounds i true) + 1 = unl listed := by
  have hi : listed.toList[i]? = some false := by
    rw [Array.getD_eq_getD_getElem?] at h
    rw [Array.getElem?_toList]
    cases hg : listed[i]? with
    | none => rw [hg] at h; simp at h
    | some b => rw [hg] at h; simp at h; rw [h]
  have := filter_set _ _ hi
  unfold unl
  simpa using this
theorem unl_zero {listed : Array Bool} (h : unl listed = 0) {j : Nat} (hj : j < listed.size) : listed.getD j false = true := by
  unfold unl at h
  have h0 := List.eq_nil_of_length_eq_zero h
  rw [List.filter_eq_nil_iff] at h0
  have := h0 listed[j] (by simp)
  rw [Array.getD_eq_getD_getElem?, Array.getElem?_eq_getElem hj]
  simpa using this

section
variable {P : Program} {ops : Array Oper} {Q : Exit → Act → World → Prop}
/-- the frame as it was, but for the slots that the region writes -/
structure Like (ds : List (Option Tmp)) (a0 a : Act) : Prop where
  size : a.tmps.size = a0.tmps.size
  defers : a.defers = a0.defers
  keep : ∀ t, some t ∉ ds → a.tmps.getD t undef = a0.tmps.getD t undef
theorem Like.old {ds : List (Option Tmp)} {a0 a : Act} (h : Like ds a0 a) {t : Nat} {v : Value} (hn : (ds.contains (some t)) = false) (hv : a0.tmps.getD t undef = v) : a.tmps.getD t undef = v := by
  rw [h.keep t (fun hm => by rw [List.contains_eq_mem] at hn; simp [hm] at hn)]
  exact hv
/-- the slot of operation j holds something of which R j is true -/
def Knows (ds : List (Option Tmp)) (R : Nat → Value → World → Prop) (a : Act) (w : World) (j : Nat) : Prop :=
  ∃ v, (∀ d, ds[j]? = some (some d) → a.tmps.getD d undef = v) ∧ R j v w
theorem Knows.slot {ds : List (Option Tmp)} {R : Nat → Value → World → Prop} {a : Act} {w : World} {j d : Nat} (h : Knows ds R a w j) (hd : ds[j]? = some (some d)) : ∃ v, a.tmps.getD d undef = v ∧ R j v w := by
  obtain ⟨v, h1, h2⟩ := h
  exact ⟨v, h1 d hd, h2⟩
/-- where R says what the value is -/
theorem Knows.is {ds : List (Option Tmp)} {R : Nat → Value → World → Prop} {a : Act} {w : World} {j d : Nat} {u : Value} (h : Knows ds R a w j) (hd : ds[j]? = some (some d)) (hR : ∀ v, R j v w → v = u) : a.tmps.getD d undef = u := by
  obtain ⟨v, h1, h2⟩ := h
  exact (h1 d hd).trans (hR v h2)
theorem wanted_of {o : Oper} {a : Act} {j d : Nat} {b : Bool} (hg : o.guard = some (j, b)) (hd : (ops[j]?).bind (·.dst) = some d) (hs : a.tmps.getD d undef = .bool b) : Region.wanted o (yielded ops a.tmps) = true := by
  unfold Region.wanted
  rw [hg]
  simp only
  unfold yielded
  rw [hd]
  simp only [Option.bind_some]
  rw [Array.getD_eq_getD_getElem?] at hs
  cases ht : a.tmps[d]? with
  | none => rw [ht] at hs; simp [undef] at hs
  | some u => rw [ht] at hs; simp only [Option.getD_some] at hs; rw [hs]; simp
theorem wanted_none {o : Oper} {a : Act} (hg : o.guard = none) : Region.wanted o (yielded ops a.tmps) = true := by
  unfold Region.wanted
  rw [hg]
/-- what is to be shown of one operation -/
def OpGoal (P : Program) (ops : Array Oper) (Q : Exit → Act → World → Prop) (ds : List (Option Tmp)) (R : Nat → Value → World → Prop) (a0 : Act) (w0 : World) (i : Nat) (o : Oper) (m : Nat) : Prop :=
  ∀ (a : Act) (w : World), Below w0.heap.size w0 w → Like ds a0 a → (∀ j, m.testBit j = true → Knows ds R a w j) →
    ∀ K : Act → World → Prop, (∀ v w', Below w.heap.size w w' → R i v w' → K (a.put o.dst v) w') →
      if Region.wanted o (yielded ops a.tmps) = true then o.wp P a w K Q else K (a.put o.dst undef) w
theorem OpGoal.wanted {ds : List (Option Tmp)} {R : Nat → Value → World → Prop} {a0 : Act} {w0 : World} {i m : Nat} {o : Oper} (hw : ∀ (a : Act) (w : World), Like ds a0 a → (∀ j, m.testBit j = true → Knows ds R a w j) → Region.wanted o (yielded ops a.tmps) = true)
    (h : ∀ (a : Act) (w : World), Below w0.heap.size w0 w → Like ds a0 a → (∀ j, m.testBit j = true → Knows ds R a w j) →
      ∀ K : Act → World → Prop, (∀ v w', Below w.heap.size w w' → R i v w' → K (a.put o.dst v) w') → o.wp P a w K Q) : OpGoal P ops Q ds R a0 w0 i o m := by
  intro a w h1 h2 h3 K hK
  rw [if_pos (hw a w h2 h3)]
  exact h a w h1 h2 h3 K hK
def Each (F : Nat → Oper → Nat → Prop) : List Oper → List Nat → Nat → Prop
  | o :: l, m :: ms, i => F i o m ∧ Each F l ms (i + 1)
  | _, _, _ => True
theorem Each.cons {F : Nat → Oper → Nat → Prop} {o : Oper} {l : List Oper} {m : Nat} {ms : List Nat} {i : Nat} (h : F i o m) (t : Each F l ms (i + 1)) : Each F (o :: l) (m :: ms) i := ⟨h, t⟩
theorem Each.get {F : Nat → Oper → Nat → Prop} : ∀ {l : List Oper} {ms : List Nat} {i : Nat}, Each F l ms i → ∀ (k : Nat) o m, l[k]? = some o → ms[k]? = some m → F (i + k) o m
  | [], _, _, _, k, o, m, h, _ => by simp at h
  | _ :: _, [], _, _, k, o, m, _, h => by simp at h
  | p :: l, q :: ms, i, hE, 0, o, m, h1, h2 => by
    simp at h1 h2
    subst h1 h2
    exact hE.1
  | p :: l, q :: ms, i, hE, k + 1, o, m, h1, h2 => by
    have := Each.get hE.2 k o m (by simpa using h1) (by simpa using h2)
    rwa [show i + 1 + k = i + (k + 1) from by omega] at this

theorem put_like {ds : List (Option Tmp)} {a0 a : Act} {o : Oper} {i : Nat} (hds : ops.toList.map (·.dst) = ds) (ho : ops[i]? = some o) (h : Like ds a0 a) (v : Value) : Like ds a0 (a.put o.dst v) := by
  refine ⟨?_, ?_, fun t ht => ?_⟩
  · rw [← h.size]; cases o.dst <;> simp [Act.put]
  · rw [← h.defers]; cases o.dst <;> rfl
  · rw [← h.keep t ht]
    cases hd : o.dst with
    | none => rfl
    | some d =>
      have hne : d ≠ t := fun e => ht (by
        rw [← hds, ← e, ← hd]
        exact List.mem_map.2 ⟨o, by have := Array.mem_of_getElem? ho; simpa using this, rfl⟩)
      simp [Act.put, Array.getD_eq_getD_getElem?, Array.getElem?_setIfInBounds_ne hne]
theorem ds_get {ds : List (Option Tmp)} (hds : ops.toList.map (·.dst) = ds) {i : Nat} {o : Oper} (ho : ops[i]? = some o) : ds[i]? = some o.dst := by
  rw [← hds, List.getElem?_map]
  have : ops.toList[i]? = some o := by simpa using ho
  rw [this]
  rfl

theorem any_each {ds : List (Option Tmp)} {R : Nat → Value → World → Prop} {a0 : Act} {w0 : World} (hok : drawOk ops = true) (hds : ops.toList.map (·.dst) = ds) (hsz : ∀ d, some d ∈ ds → d < a0.tmps.size)
    (hR : ∀ i v w w', Below w.heap.size w w' → R i v w → R i v w')
    (each : Each (fun i o m => OpGoal P ops Q ds R a0 w0 i o m) ops.toList (pres ops.toList []) 0)
    (fin : ∀ a w, Below w0.heap.size w0 w → Like ds a0 a → (∀ j, j < ops.size → Knows ds R a w j) → Q .normal a w) :
    ∀ (fuel : Nat) (listed : Array Bool) (a : Act) (w : World), listed.size = ops.size →
      (∀ (j : Nat) o, listed.getD j false = true → ops[j]? = some o → ∀ e ∈ o.after, Region.binds .any e = true → listed.getD e.on false = true) →
      unl listed ≤ fuel → Below w0.heap.size w0 w → Like ds a0 a → (∀ j, listed.getD j false = true → Knows ds R a w j) → wpAny P .any ops Q fuel listed a w := by
  have done : ∀ (listed : Array Bool) (a : Act) (w : World), (∀ j, j < ops.size → listed.getD j false = true) → Below w0.heap.size w0 w → Like ds a0 a → (∀ j, listed.getD j false = true → Knows ds R a w j) → Q .normal a w :=
    fun listed a w hall h1 h2 h3 => fin a w h1 h2 fun j hj => h3 j (hall j hj)
  intro fuel
  induction fuel with
  | zero =>
    intro listed a w hsz' hcl hu hb hl hk
    have hall : ∀ j, j < ops.size → listed.getD j false = true := fun j hj => unl_zero (by omega) (by omega)
    refine ⟨?_, done listed a w hall hb hl hk⟩
    cases hr : Region.ready .any ops listed with
    | nil => rfl
    | cons i l =>
      have hi : i ∈ Region.ready .any ops listed := by rw [hr]; exact List.mem_cons_self
      obtain ⟨h1, o, h2, _⟩ := mem_ready.1 hi
      have hlt : i < ops.size := (Array.getElem?_eq_some_iff.1 h2).1
      rw [getD_tf (by omega) true false, hall i hlt] at h1
      cases h1
  | succ fuel ih =>
    intro listed a w hsz' hcl hu hb hl hk
    refine ⟨fun hr => ?_, fun i hi => ?_⟩
    · have hall : ∀ j, j < ops.size → listed.getD j false = true := by
        intro j
        induction j using Nat.strongRecOn with
        | _ j ihj =>
          intro hj
          cases hx : listed.getD j false with
          | true => rfl
          | false =>
            exfalso
            have hm : j ∈ Region.ready .any ops listed := mem_ready.2 ⟨by rw [getD_tf (by omega) true false]; exact hx, ops[j], Array.getElem?_eq_getElem hj, fun e he hbd => by
              have hlt : e.on < j := by
                have := (allOk_spec hok j ops[j] (by simp)).1
                rw [Nat.zero_add] at this
                exact edgesOk_mem this e (by simpa using he) hbd
              exact ihj e.on hlt (by omega)⟩
            rw [hr] at hm
            cases hm
      exact done listed a w hall hb hl hk
    · obtain ⟨hun, o, ho, hedges⟩ := mem_ready.1 hi
      have hlt : i < ops.size := (Array.getElem?_eq_some_iff.1 ho).1
      obtain ⟨m, hm⟩ : ∃ m, (pres ops.toList [])[i]? = some m := ⟨_, pres_get ops ho⟩
      have hF := each.get i o m (by simpa using ho) hm
      rw [Nat.zero_add] at hF
      have hpre : ∀ j, m.testBit j = true → Knows ds R a w j := fun j hj =>
        hk j (pre_closed hok (S := fun j => listed.getD j false = true) hcl i o m ho hm hedges j hj).1
      have hset : ∀ j, (listed.setIfInBounds i true).getD j false = true ↔ listed.getD j false = true ∨ j = i := by
        intro j
        by_cases e : i = j
        · subst e
          simp [Array.getD_eq_getD_getElem?, show i < listed.size from by omega]
        · rw [show (listed.setIfInBounds i true).getD j false = listed.getD j false from by simp [Array.getD_eq_getD_getElem?, Array.getElem?_setIfInBounds_ne e]]
          exact ⟨.inl, fun h => h.resolve_right fun e' => e e'.symm⟩
      have next : ∀ v w', Below w.heap.size w w' → R i v w' → wpAny P .any ops Q fuel (listed.setIfInBounds i true) (a.put o.dst v) w' := by
        intro v w' hw' hv
        refine ih _ _ _ (by simpa using hsz') (fun j p hj hp e he hbd => ?_) ?_ (hb.trans (hw'.mono hb.size)) (put_like hds ho hl v) (fun j hj => ?_)
        · rcases (hset j).1 hj with hj | rfl
          · exact (hset _).2 (.inl (hcl j p hj hp e he hbd))
          · rw [ho] at hp
            obtain rfl := Option.some.inj hp
            exact (hset _).2 (.inl (hedges e he hbd))
        · have := unl_set hun
          omega
        · by_cases hji : j = i
          · subst hji
            refine ⟨v, fun d hd => ?_, hv⟩
            rw [ds_get hds ho] at hd
            obtain hd := Option.some.inj hd
            have hdlt : d < a.tmps.size := by
              rw [hl.size]
              exact hsz d (by
                rw [← hds, ← hd]
                exact List.mem_map.2 ⟨o, by have := Array.mem_of_getElem? ho; simpa using this, rfl⟩)
            rw [hd]
            simp [Act.put, Array.getD_eq_getD_getElem?, hdlt]
          · obtain ⟨u, hu1, hu2⟩ := hk j (((hset j).1 hj).resolve_right hji)
            refine ⟨u, fun d hd => ?_, hR _ _ _ _ hw' hu2⟩
            rw [← hu1 d hd]
            cases hod : o.dst with
            | none => rfl
            | some e =>
              have hne : e ≠ d := by
                rintro rfl
                have hjlt : j < ops.size := by
                  have := (List.getElem?_eq_some_iff.1 hd).1
                  rw [← hds] at this
                  simpa using this
                have hoj : ops[j]? = some ops[j] := Array.getElem?_eq_getElem hjlt
                have hdj := ds_get hds hoj
                rw [hd] at hdj
                have hdj := Option.some.inj hdj
                have hsp := (allOk_spec hok i o (by simpa using ho)).2.1
                exact (dstOk_spec hsp j ops[j] e (by simp) (by omega) hdj.symm).1 hod
              simp [Act.put, Array.getD_eq_getD_getElem?, Array.getElem?_setIfInBounds_ne hne]
      have hgo := hF a w hb hl hpre _ next
      unfold wpOp
      simp only [ho]
      split
      · rename_i hw
        rw [if_pos hw] at hgo
        exact .inl hgo
      · rename_i hw
        rw [if_neg hw] at hgo
        exact hgo

theorem region_each {ds : List (Option Tmp)} {MS : List Nat} {R : Nat → Value → World → Prop} {a : Act} {w : World} {id : Nat} (hm : P.follows .mixedOrders = true) (hok : drawOk ops = true) (hds : ops.toList.map (·.dst) = ds) (hMS : pres ops.toList [] = MS)
    (hsz : (ds.all fun | some d => Nat.blt d a.tmps.size | none => true) = true)
    (hR : ∀ i v w w', Below w.heap.size w w' → R i v w → R i v w') (G : Act → Prop) (hG : G a)
    (each : ops.toList.map (·.dst) = ds → ∀ (Q' : Exit → Act → World → Prop) (a0 : Act), G a0 → Each (fun i o m => OpGoal P ops Q' ds R a0 w i o m) ops.toList MS 0)
    (fin : ∀ a' w', Below w.heap.size w w' → Like ds a a' → (∀ j, j < ds.length → Knows ds R a' w' j) → Q .normal a' w') : (Code.region id ops true).wp P Q a w := by
  refine wp_region_any hm ?_
  refine any_each (w0 := w) hok hds (fun d hd => ?_) hR (by rw [hMS]; exact each hds Q a hG) (fun a' w' h1 h2 h3 => fin a' w' h1 h2 fun j hj => h3 j (by rw [← hds] at hj; simpa using hj)) ops.size _ a w.drew (by simp) (fun j o hj => ?_) ?_ (Below.refl _ _).drew ⟨rfl, rfl, fun _ _ => rfl⟩ (fun j hj => ?_)
  · have := List.all_eq_true.1 hsz _ hd
    simpa [Nat.blt_eq] using this
  · rw [Array.getD_eq_getD_getElem?, Array.getElem?_replicate] at hj
    split at hj <;> simp at hj
  · unfold unl
    exact Nat.le_trans (List.length_filter_le _ _) (by simp)
  · rw [Array.getD_eq_getD_getElem?, Array.getElem?_replicate] at hj
    split at hj <;> simp at hj
/-- an operation without a guard -/
theorem OpGoal.free {ds : List (Option Tmp)} {R : Nat → Value → World → Prop} {a0 : Act} {w0 : World} {i m : Nat} {o : Oper} (hg : o.guard = none)
    (h : ∀ (a : Act) (w : World), Below w0.heap.size w0 w → Like ds a0 a → (∀ j, m.testBit j = true → Knows ds R a w j) →
      ∀ K : Act → World → Prop, (∀ v w', Below w.heap.size w w' → R i v w' → K (a.put o.dst v) w') → o.wp P a w K Q) : OpGoal P ops Q ds R a0 w0 i o m :=
  .wanted (fun _ _ _ _ => wanted_none hg) h
/-- an operation whose guard says yes -/
theorem OpGoal.guarded {ds : List (Option Tmp)} {R : Nat → Value → World → Prop} {a0 : Act} {w0 : World} {i m j d : Nat} {o : Oper} (hds : ops.toList.map (·.dst) = ds) (hg : o.guard = some (j, true)) (hd : ds[j]? = some (some d)) (hb : m.testBit j = true)
    (hR : ∀ v w, R j v w → v = .bool true)
    (h : ∀ (a : Act) (w : World), Below w0.heap.size w0 w → Like ds a0 a → (∀ j, m.testBit j = true → Knows ds R a w j) →
      ∀ K : Act → World → Prop, (∀ v w', Below w.heap.size w w' → R i v w' → K (a.put o.dst v) w') → o.wp P a w K Q) : OpGoal P ops Q ds R a0 w0 i o m :=
  .wanted (fun a w _ hk => wanted_of hg (by
    rw [← hds, List.getElem?_map] at hd
    cases ho : ops.toList[j]? with
    | none => rw [ho] at hd; simp at hd
    | some p =>
      rw [ho] at hd
      have : ops[j]? = some p := by simpa using ho
      rw [this]
      simpa using hd) ((hk j hb).is hd fun v => hR v _)) h
end
end EachKit
end Go.Proofs.YtajnnkapgnmoaaaGreat
/-
  As Each, for a region whose last operations wait for all that is ahead: the first ones are looked at once each, the last ones are left. No program in sight.
-/
set_option linter.unusedVariables false
namespace Go.Proofs.YtajnnkapgnmoaaaGreat
namespace EachKit
open Go.RowKit

def allBits : Nat → Nat → Bool
  | 0, _ => true
  | L + 1, m => m.testBit L && allBits L m
def lastAll (L : Nat) : List Nat → Nat → Bool
  | [], _ => true
  | m :: l, k => (Nat.blt k L || allBits L m) && lastAll L l (Nat.succ k)
def markOk (L : Nat) : List Bool → Nat → Bool
  | [], _ => true
  | b :: l, k => (b == Nat.blt k L) && markOk L l (Nat.succ k)
theorem allBits_spec : ∀ {L m : Nat}, allBits L m = true → ∀ j, j < L → m.testBit j = true
  | 0, _, _, j, h => by omega
  | L + 1, m, h, j, hj => by
    rw [allBits, Bool.and_eq_true] at h
    rcases Nat.lt_or_ge j L with h1 | h1
    · exact allBits_spec h.2 j h1
    · obtain rfl : j = L := by omega
      exact h.1
theorem lastAll_spec {L : Nat} : ∀ {l : List Nat} {k : Nat}, lastAll L l k = true → ∀ (i : Nat) m, l[i]? = some m → L ≤ k + i → ∀ j, j < L → m.testBit j = true
  | [], k, _, i, m, h, _ => by simp at h
  | x :: l, k, hh, i, m, h, hL => by
    rw [lastAll, Bool.and_eq_true] at hh
    cases i with
    | zero =>
      simp at h
      subst h
      have h1 := hh.1
      rw [Bool.or_eq_true] at h1
      rcases h1 with h1 | h1
      · rw [Nat.blt_eq] at h1; omega
      · exact allBits_spec h1
    | succ i => exact lastAll_spec hh.2 i m (by simpa using h) (by rw [show k.succ + i = k + (i + 1) from by omega]; exact hL)
theorem markOk_spec {L : Nat} : ∀ {l : List Bool} {k : Nat}, markOk L l k = true → ∀ (i : Nat) b, l[i]? = some b → b = decide (k + i < L)
  | [], k, _, i, b, h => by simp at h
  | x :: l, k, hh, i, b, h => by
    rw [markOk, Bool.and_eq_true] at hh
    cases i with
    | zero =>
      simp at h
      subst h
      have h1 := eq_of_beq hh.1
      rw [h1]
      cases hb : Nat.blt k L with
      | true => rw [Nat.blt_eq] at hb; simp; omega
      | false =>
        have : ¬ k < L := fun h => by rw [← Nat.blt_eq] at h; rw [h] at hb; cases hb
        simp; omega
    | succ i =>
      have := markOk_spec hh.2 i b (by simpa using h)
      rw [this]
      congr 1
      apply propext
      omega
section
variable {P : Program} {ops : Array Oper} {Q : Exit → Act → World → Prop}
theorem any_first {ds : List (Option Tmp)} {R : Nat → Value → World → Prop} {a0 : Act} {w0 : World} {L F : Nat} {LL : Array Bool} (hok : drawOk ops = true) (hds : ops.toList.map (·.dst) = ds) (hsz : ∀ d, some d ∈ ds → d < a0.tmps.size)
    (hL : L < ops.size) (hlast : lastAll L (pres ops.toList []) 0 = true) (hLL : LL.size = ops.size) (hmark : markOk L LL.toList 0 = true) (hF : unl LL = F)
    (hR : ∀ i v w w', Below w.heap.size w w' → R i v w → R i v w')
    (each : Each (fun i o m => i < L → OpGoal P ops Q ds R a0 w0 i o m) ops.toList (pres ops.toList []) 0)
    (fin : ∀ a w, Below w0.heap.size w0 w → Like ds a0 a → (∀ j, j < L → Knows ds R a w j) → wpAny P .any ops Q F LL a w) :
    ∀ (fuel : Nat) (listed : Array Bool) (a : Act) (w : World), listed.size = ops.size →
      (∀ (j : Nat) o, listed.getD j false = true → ops[j]? = some o → ∀ e ∈ o.after, Region.binds .any e = true → listed.getD e.on false = true) →
      (∀ j, L ≤ j → listed.getD j false = false) →
      unl listed = fuel → Below w0.heap.size w0 w → Like ds a0 a → (∀ j, listed.getD j false = true → Knows ds R a w j) → wpAny P .any ops Q fuel listed a w := by
  have done : ∀ (listed : Array Bool) (fuel : Nat) (a : Act) (w : World), listed.size = ops.size → unl listed = fuel → (∀ j, L ≤ j → listed.getD j false = false) → (∀ j, j < L → listed.getD j false = true) → Below w0.heap.size w0 w → Like ds a0 a → (∀ j, listed.getD j false = true → Knows ds R a w j) → wpAny P .any ops Q fuel listed a w := by
    intro listed fuel a w hs hu hge hall h1 h2 h3
    have e : listed = LL := by
      refine Array.ext (by omega) fun i hi1 hi2 => ?_
      have hm := markOk_spec hmark i LL[i] (by simp)
      rw [Nat.zero_add] at hm
      rw [hm]
      have hd : listed.getD i false = listed[i] := by rw [Array.getD_eq_getD_getElem?, Array.getElem?_eq_getElem hi1]; rfl
      rw [← hd]
      by_cases hi : i < L
      · rw [hall i hi, decide_eq_true hi]
      · rw [hge i (by omega), decide_eq_false hi]
    subst e
    rw [← hu, hF]
    exact fin a w h1 h2 fun j hj => h3 j (hall j hj)
  intro fuel
  induction fuel with
  | zero =>
    intro listed a w hsz' hcl hge hu hb hl hk
    have := unl_zero hu (j := L) (by omega)
    rw [hge L (Nat.le_refl _)] at this
    cases this
  | succ fuel ih =>
    intro listed a w hsz' hcl hge hu hb hl hk
    by_cases hall : ∀ j, j < L → listed.getD j false = true
    · exact done listed _ a w hsz' hu hge hall hb hl hk
    refine ⟨fun hr => ?_, fun i hi => ?_⟩
    · exfalso
      refine hall fun j => ?_
      induction j using Nat.strongRecOn with
      | _ j ihj =>
        intro hj
        cases hx : listed.getD j false with
        | true => rfl
        | false =>
          exfalso
          have hjs : j < ops.size := by omega
          have hm : j ∈ Region.ready .any ops listed := mem_ready.2 ⟨by rw [getD_tf (by omega) true false]; exact hx, ops[j], Array.getElem?_eq_getElem hjs, fun e he hbd => by
            have hlt : e.on < j := by
              have := (allOk_spec hok j ops[j] (by simp)).1
              rw [Nat.zero_add] at this
              exact edgesOk_mem this e (by simpa using he) hbd
            exact ihj e.on hlt (by omega)⟩
          rw [hr] at hm
          cases hm
    · obtain ⟨hun, o, ho, hedges⟩ := mem_ready.1 hi
      have hlt : i < ops.size := (Array.getElem?_eq_some_iff.1 ho).1
      obtain ⟨m, hm⟩ : ∃ m, (pres ops.toList [])[i]? = some m := ⟨_, pres_get ops ho⟩
      have hcl' := pre_closed hok (S := fun j => listed.getD j false = true) hcl i o m ho hm hedges
      have hiL : i < L := by
        rcases Nat.lt_or_ge i L with h | h
        · exact h
        · exfalso
          refine hall fun j hj => (hcl' j (lastAll_spec hlast i m hm (by omega) j hj)).1
      have hF' := each.get i o m (by simpa using ho) hm
      rw [Nat.zero_add] at hF'
      have hpre : ∀ j, m.testBit j = true → Knows ds R a w j := fun j hj => hk j (hcl' j hj).1
      have hset : ∀ j, (listed.setIfInBounds i true).getD j false = true ↔ listed.getD j false = true ∨ j = i := by
        intro j
        by_cases e : i = j
        · subst e
          simp [Array.getD_eq_getD_getElem?, show i < listed.size from by omega]
        · rw [show (listed.setIfInBounds i true).getD j false = listed.getD j false from by simp [Array.getD_eq_getD_getElem?, Array.getElem?_setIfInBounds_ne e]]
          exact ⟨.inl, fun h => h.resolve_right fun e' => e e'.symm⟩
      have next : ∀ v w', Below w.heap.size w w' → R i v w' → wpAny P .any ops Q fuel (listed.setIfInBounds i true) (a.put o.dst v) w' := by
        intro v w' hw' hv
        refine ih _ _ _ (by simpa using hsz') (fun j p hj hp e he hbd => ?_) (fun j hj => ?_) ?_ (hb.trans (hw'.mono hb.size)) (put_like hds ho hl v) (fun j hj => ?_)
        · rcases (hset j).1 hj with hj | rfl
          · exact (hset _).2 (.inl (hcl j p hj hp e he hbd))
          · rw [ho] at hp
            obtain rfl := Option.some.inj hp
            exact (hset _).2 (.inl (hedges e he hbd))
        · cases hx : (listed.setIfInBounds i true).getD j false with
          | false => rfl
          | true =>
            rcases (hset j).1 hx with h | h
            · rw [hge j hj] at h; cases h
            · omega
        · have := unl_set hun
          omega
        · by_cases hji : j = i
          · subst hji
            refine ⟨v, fun d hd => ?_, hv⟩
            rw [ds_get hds ho] at hd
            obtain hd := Option.some.inj hd
            have hdlt : d < a.tmps.size := by
              rw [hl.size]
              exact hsz d (by
                rw [← hds, ← hd]
                exact List.mem_map.2 ⟨o, by have := Array.mem_of_getElem? ho; simpa using this, rfl⟩)
            rw [hd]
            simp [Act.put, Array.getD_eq_getD_getElem?, hdlt]
          · obtain ⟨u, hu1, hu2⟩ := hk j (((hset j).1 hj).resolve_right hji)
            refine ⟨u, fun d hd => ?_, hR _ _ _ _ hw' hu2⟩
            rw [← hu1 d hd]
            cases hod : o.dst with
            | none => rfl
            | some e =>
              have hne : e ≠ d := by
                rintro rfl
                have hjlt : j < ops.size := by
                  have := (List.getElem?_eq_some_iff.1 hd).1
                  rw [← hds] at this
                  simpa using this
                have hoj : ops[j]? = some ops[j] := Array.getElem?_eq_getElem hjlt
                have hdj := ds_get hds hoj
                rw [hd] at hdj
                have hdj := Option.some.inj hdj
                have hsp := (allOk_spec hok i o (by simpa using ho)).2.1
                exact (dstOk_spec hsp j ops[j] e (by simp) (by omega) hdj.symm).1 hod
              simp [Act.put, Array.getD_eq_getD_getElem?, Array.getElem?_setIfInBounds_ne hne]
      have hgo := hF' hiL a w hb hl hpre _ next
      unfold wpOp
      simp only [ho]
      split
      · rename_i hw
        rw [if_pos hw] at hgo
        exact .inl hgo
      · rename_i hw
        rw [if_neg hw] at hgo
        exact hgo

theorem region_first {ds : List (Option Tmp)} {MS : List Nat} {R : Nat → Value → World → Prop} {a : Act} {w : World} {id L F : Nat} {LL : Array Bool} (hm : P.follows .mixedOrders = true) (hok : drawOk ops = true) (hds : ops.toList.map (·.dst) = ds) (hMS : pres ops.toList [] = MS)
    (hsz : (ds.all fun | some d => Nat.blt d a.tmps.size | none => true) = true)
    (hL : Nat.blt L ops.size = true) (hlast : lastAll L MS 0 = true) (hLL : LL.size = ops.size) (hmark : markOk L LL.toList 0 = true) (hF : unl LL = F)
    (hR : ∀ i v w w', Below w.heap.size w w' → R i v w → R i v w') (G : Act → Prop) (hG : G a)
    (each : ops.toList.map (·.dst) = ds → ∀ (Q' : Exit → Act → World → Prop) (a0 : Act), G a0 → Each (fun i o m => i < L → OpGoal P ops Q' ds R a0 w i o m) ops.toList MS 0)
    (fin : ∀ a' w', Below w.heap.size w w' → Like ds a a' → (∀ j, j < L → Knows ds R a' w' j) → wpAny P .any ops Q F LL a' w') : (Code.region id ops true).wp P Q a w := by
  refine wp_region_any hm ?_
  refine any_first (w0 := w) hok hds (fun d hd => ?_) (by simpa [Nat.blt_eq] using hL) (by rw [hMS]; exact hlast) hLL hmark hF hR (by rw [hMS]; exact each hds Q a hG) fin ops.size _ a w.drew (by simp) (fun j o hj => ?_) (fun j hj => ?_) ?_ (Below.refl _ _).drew ⟨rfl, rfl, fun _ _ => rfl⟩ (fun j hj => ?_)
  · have := List.all_eq_true.1 hsz _ hd
    simpa [Nat.blt_eq] using this
  · rw [Array.getD_eq_getD_getElem?, Array.getElem?_replicate] at hj
    split at hj <;> simp at hj
  · rw [Array.getD_eq_getD_getElem?, Array.getElem?_replicate]
    split <;> simp
  · unfold unl
    simp
  · rw [Array.getD_eq_getD_getElem?, Array.getElem?_replicate] at hj
    split at hj <;> simp at hj
/-- the slots that a region writes, written anew -/
def setU (u : Nat → Value) : List (Option Tmp) → Array Value → Array Value
  | [], t => t
  | none :: l, t => setU u l t
  | some d :: l, t => setU u l (t.setIfInBounds d (u d))
theorem setU_get (s : Array Value) : ∀ (l : List (Option Tmp)) (t : Array Value), s.size = t.size → (∀ i, some i ∉ l → s.getD i undef = t.getD i undef) → setU (fun i => s.getD i undef) l t = s
  | [], t, hs, h => by
    refine Array.ext hs.symm fun i h1 h2 => ?_
    have := h i (by simp)
    unfold setU at h1 ⊢
    simp only [Array.getD_eq_getD_getElem?, Array.getElem?_eq_getElem h1, Array.getElem?_eq_getElem h2, Option.getD_some] at this
    exact this.symm
  | none :: l, t, hs, h => by
    unfold setU
    exact setU_get s l t hs fun i hi => h i (by simpa using hi)
  | some d :: l, t, hs, h => by
    unfold setU
    refine setU_get s l _ (by simpa using hs) fun i hi => ?_
    by_cases hid : d = i
    · subst hid
      by_cases hlt : d < t.size
      · simp [Array.getD_eq_getD_getElem?, hlt]
      · have h1 : s.size ≤ d := by rw [hs]; exact Nat.le_of_not_lt hlt
        have h2 : t.size ≤ d := Nat.le_of_not_lt hlt
        simp [Array.getD_eq_getD_getElem?, Array.getElem?_eq_none h1, h2]
    · rw [h i (by simp; exact ⟨fun e => hid e.symm, hi⟩)]
      simp [Array.getD_eq_getD_getElem?, Array.getElem?_setIfInBounds_ne hid]
theorem Like.form {ds : List (Option Tmp)} {a a' : Act} (h : Like ds a a') : ∃ u : Nat → Value, a' = { tmps := setU u ds a.tmps, defers := a.defers } := by
  refine ⟨fun i => a'.tmps.getD i undef, ?_⟩
  rw [setU_get a'.tmps ds a.tmps h.size h.keep, ← h.defers]
/-- a frame of n slots, slot by slot -/
theorem frame_of {tm : Array Value} {n : Nat} (h : tm.size = n) : tm = ((List.range n).map fun i => tm.getD i undef).toArray := by
  apply Array.ext
  · simp [h]
  · intro i h1 h2
    simp [Array.getD, h1]
end
end EachKit
end Go.Proofs.YtajnnkapgnmoaaaGreat
