/-
  Package confluenceref3 at tallies of one part (a net): Of, Parts, Net, of, Reduce, Flip, Add.
-/
import Derived.Test.YtajnnkapgnmoaaaGreatMw3
import Derived.Test.YtajnnkapgnmoaaaGreatMw0
import Derived.StillTailTactics
set_option linter.unusedVariables false
set_option linter.unusedSimpArgs false
set_option linter.unusedVariables false
set_option linter.unusedSimpArgs false
namespace Go.Proofs.YtajnnkapgnmoaaaGreat
open Go.RowKit

theorem ref3_Of (a b : Int) (w : World) :
    Calls Tryz.prog 50 #[.int .i64 a, .int .i64 b] w fun e w' => e = .returned (.complex .f64 (Fl.F a) (Fl.F b)) ∧ w = w' := by
  go_enter Tryz.func50, Tryz.ntmps50
  go_wp2
  go_ret
  exact ⟨rfl, rfl⟩
set_option maxHeartbeats 1000000 in
theorem ref3_parts {a b : Int} (ha : 0 ≤ a ∧ a ≤ 1125899906842624) (hb : 0 ≤ b ∧ b ≤ 1125899906842624) (w : World) :
    Calls Tryz.prog 56 #[.complex .f64 (Fl.F a) (Fl.F b)] w fun e w' => e = .returned (.tuple #[.int .i64 a, .int .i64 b, .bool true]) ∧ w = w' := by
  have hx := Fl.reads_F a (by omega)
  have hy := Fl.reads_F b (by omega)
  have k1 := fun w => run_convert_float_int (P := Tryz.prog) w 101 2 .f64 .i64 (Fl.F a) a (by kernel_rfl) Tryz.underlying2 (Fl.floatToInt_reads hx (by omega) (by omega))
  have k2 := fun w => run_convert_float_int (P := Tryz.prog) w 101 2 .f64 .i64 (Fl.F b) b (by kernel_rfl) Tryz.underlying2 (Fl.floatToInt_reads hy (by omega) (by omega))
  have g1 : ∃ o1, FloatKind.f64.format.order (Fl.F a) 0 = some o1 ∧ o1 ≠ .lt := ⟨_, Fl.order_reads hx reads_zero, fun e => by have := Int.compare_eq_lt.1 e; omega⟩
  have g2 : ∃ o1, FloatKind.f64.format.order (Fl.F b) 0 = some o1 ∧ o1 ≠ .lt := ⟨_, Fl.order_reads hy reads_zero, fun e => by have := Int.compare_eq_lt.1 e; omega⟩
  have g3 : ∃ o1, FloatKind.f64.format.order (Fl.F a) 4832362400168542208 = some o1 ∧ o1 ≠ .gt := ⟨_, Fl.order_reads hx reads_most, fun e => by have := Int.compare_eq_gt.1 e; omega⟩
  have g4 : ∃ o1, FloatKind.f64.format.order (Fl.F b) 4832362400168542208 = some o1 ∧ o1 ≠ .gt := ⟨_, Fl.order_reads hy reads_most, fun e => by have := Int.compare_eq_gt.1 e; omega⟩
  have f5 : FloatKind.f64.format.order (floatOfInt .f64 a) (Fl.F a) = some .eq := order_of hx hx (Int.compare_eq_eq.2 rfl)
  have f6 : FloatKind.f64.format.order (floatOfInt .f64 b) (Fl.F b) = some .eq := order_of hy hy (Int.compare_eq_eq.2 rfl)
  obtain ⟨o1, f1, n1⟩ := g1
  obtain ⟨o2, f2, n2⟩ := g2
  obtain ⟨o3, f3, n3⟩ := g3
  obtain ⟨o4, f4, n4⟩ := g4
  clear hx hy
  generalize Fl.F a = x at *
  generalize Fl.F b = y at *
  cases o1 <;> first | exact absurd rfl n1 | skip
  all_goals (cases o2 <;> first | exact absurd rfl n2 | skip)
  all_goals (cases o3 <;> first | exact absurd rfl n3 | skip)
  all_goals (cases o4 <;> first | exact absurd rfl n4 | skip)
  all_goals
    clear n1 n2 n3 n4 ha hb
    go_enter Tryz.func56, Tryz.ntmps56
    go_wp2
    go_ret3
    exact ⟨rfl, rfl⟩
theorem okN.pos {k : Int} (h : okN k) : (0 ≤ pos k ∧ pos k ≤ 1125899906842624) ∧ (0 ≤ pos (-k) ∧ pos (-k) ≤ 1125899906842624) ∧ pos k - pos (-k) = k := by
  unfold okN at h
  have h1 := pos_bd k
  have h2 := pos_bd (-k)
  omega
theorem rf_parts {k : Int} (h : okN k) (w : World) : Calls Tryz.prog 56 #[tal k] w fun e w' => e = .returned (.tuple #[.int .i64 (pos k), .int .i64 (pos (-k)), .bool true]) ∧ w = w' :=
  ref3_parts h.pos.1 h.pos.2.1 w
theorem rf_net {k : Int} (h : okN k) (w : World) : Calls Tryz.prog 94 #[tal k] w fun e w' => e = .returned (.int .i64 k) ∧ w = w' := by
  have c := Lib.hid (rf_parts h)
  obtain ⟨h1, h2, h3⟩ := h.pos
  have e : Hid (pos k - pos (-k) = k) := Lib.hid h3
  generalize pos k = a at *
  generalize pos (-k) = b at *
  generalize tal k = t at *
  clear h h3
  go_enter Tryz.func94, Tryz.ntmps94
  go_wp2_with (go_at_call 56; refine (c.out _).mono ?_; rintro e w' ⟨rfl, rfl⟩)
  go_ret
  exact ⟨by rw [← e.out]; rfl, rfl⟩
theorem rf_of {k : Int} (h : okN k) (w : World) : Calls Tryz.prog 97 #[.int .i64 k] w fun e w' => e = .returned (.tuple #[tal k, .bool true]) ∧ w = w' := by
  unfold okN at h
  obtain ⟨p0, p1, p2⟩ := pos_bd k
  obtain ⟨m0, m1, m2⟩ := pos_bd (-k)
  unfold tal
  by_cases h0 : k < 0
  · rw [p2 (by omega), m1 (by omega)]
    have c := Lib.hid (ref3_Of 0 (-k))
    clear p0 p1 p2 m0 m1 m2
    go_enter Tryz.func97, Tryz.ntmps97
    go_wp2_with (go_at_call 50; refine (c.out _).mono ?_; rintro e w' ⟨rfl, rfl⟩)
    go_ret2
    exact ⟨rfl, rfl⟩
  · rw [p1 (by omega), m2 (by omega)]
    have c := Lib.hid (ref3_Of k 0)
    clear p0 p1 p2 m0 m1 m2
    go_enter Tryz.func97, Tryz.ntmps97
    go_wp2_with (go_at_call 50; refine (c.out _).mono ?_; rintro e w' ⟨rfl, rfl⟩)
    go_ret2
    exact ⟨rfl, rfl⟩
theorem rf_reduce {k : Int} (h : okN k) (w : World) : Calls Tryz.prog 61 #[tal k] w fun e w' => e = .returned (tal k) ∧ w = w' := by
  have c := Lib.hid (rf_net h)
  have d := Lib.hid (rf_of h)
  generalize tal k = t at *
  clear h
  go_enter Tryz.func61, Tryz.ntmps61
  go_wp2_with (first | (go_at_call 94; refine (c.out _).mono ?_; rintro e w' ⟨rfl, rfl⟩) | (go_at_call 97; refine (d.out _).mono ?_; rintro e w' ⟨rfl, rfl⟩))
  go_ret
  exact ⟨rfl, rfl⟩
set_option maxHeartbeats 400000 in
theorem rf_flip {k : Int} (h : okN k) (w : World) : Calls Tryz.prog 95 #[tal k] w fun e w' => e = .returned (tal (-k)) ∧ w = w' := by
  have c := Lib.hid (rf_parts h)
  have d := Lib.hid (fun w => ref3_Of (pos (-k)) (pos k) w)
  have et : tal (-k) = .complex .f64 (Fl.F (pos (-k))) (Fl.F (pos k)) := by unfold tal; rw [Int.neg_neg]
  rw [et]
  generalize pos k = a at *
  generalize pos (-k) = b at *
  generalize tal k = t at *
  clear h et
  go_enter Tryz.func95, Tryz.ntmps95
  go_wp2_with (first | (go_at_call 56; refine (c.out _).mono ?_; rintro e w' ⟨rfl, rfl⟩) | (go_at_call 50; refine (d.out _).mono ?_; rintro e w' ⟨rfl, rfl⟩))
  go_ret
  exact ⟨rfl, rfl⟩
set_option maxHeartbeats 400000 in
theorem rf_add {a b : Int} (ha : okN a) (hb : okN b) (h : okN (a + b)) (w : World) : Calls Tryz.prog 60 #[tal a, tal b] w fun e w' => e = .returned (.tuple #[tal (a + b), .bool true]) ∧ w = w' := by
  have p1 := Lib.hid (rf_parts ha)
  have p2 := Lib.hid (rf_parts hb)
  have n1 := Lib.hid (rf_net ha)
  have n2 := Lib.hid (rf_net hb)
  have o := Lib.hid (rf_of h)
  unfold okN at ha hb
  generalize tal (a + b) = t at *
  generalize tal a = u at *
  generalize tal b = v at *
  generalize pos a = q1 at *
  generalize pos (-a) = q2 at *
  generalize pos b = q3 at *
  generalize pos (-b) = q4 at *
  clear h
  go_enter Tryz.func60, Tryz.ntmps60
  go_wp2_with fail
  refine (p1.out _).mono ?_
  rintro e w' ⟨rfl, rfl⟩
  go_wp2_with fail
  refine (p2.out _).mono ?_
  rintro e w' ⟨rfl, rfl⟩
  go_wp2_with fail
  refine (n1.out _).mono ?_
  rintro e w' ⟨rfl, rfl⟩
  go_wp2_with fail
  refine (n2.out _).mono ?_
  rintro e w' ⟨rfl, rfl⟩
  go_wp2_with fail
  refine (o.out _).mono ?_
  rintro e w' ⟨rfl, rfl⟩
  go_wp2_with fail
  go_ret2
  exact ⟨rfl, rfl⟩
end Go.Proofs.YtajnnkapgnmoaaaGreat
/-
  Package confluenceref4's Right and Less: the same values as value's.
-/
namespace Go.Proofs.YtajnnkapgnmoaaaGreat
open Go.RowKit
set_option maxHeartbeats 400000 in
theorem ref4_right (k n : Int) (s : ByteArray) (w : World) :
    Calls Tryz.prog 92 #[.agg #[.int .i64 k, .int .i64 n, .string s]] w fun e w' =>
      e = .returned (.bool (V.okB ⟨k, n, s⟩)) ∧ w.alloc (.cells #[.int .i64 k, .int .i64 n, .string s] 49) = w' := by
  by_cases h1 : (k == 1) = true
  · have h12 : (k == 2) = false := by simp at h1 ⊢; omega
    by_cases he : s.toList = []
    · have hr : V.okB ⟨k, n, s⟩ = true := by simp [V.okB, h1, he]
      have he2 : s.toList.isEmpty = true := by rw [he]; rfl
      rw [hr]
      clear hr
      go_enter Tryz.func92, Tryz.ntmps92
      go_wp2
      go_ret
      exact ⟨rfl, rfl⟩
    · have he2 : s.toList.isEmpty = false := by simpa using he
      have hr : V.okB ⟨k, n, s⟩ = false := by simp [V.okB, h12, he]
      rw [hr]
      clear hr he
      go_enter Tryz.func92, Tryz.ntmps92
      go_wp2
      go_ret
      exact ⟨rfl, rfl⟩
  · have h1' : (k == 1) = false := by simpa using h1
    clear h1
    by_cases h2 : (k == 2) = true
    · by_cases h3 : n = 0
      · subst h3
        have hr : V.okB ⟨k, 0, s⟩ = decide ((s.size : Int) ≤ 40) := by simp [V.okB, h1', h2]
        rw [hr]
        clear hr
        go_enter Tryz.func92, Tryz.ntmps92
        go_wp2
        go_ret
        exact ⟨rfl, rfl⟩
      · have hr : V.okB ⟨k, n, s⟩ = false := by simp [V.okB, h1', h3]
        have h3' : (n == 0) = false := by simpa using h3
        rw [hr]
        clear hr h3
        go_enter Tryz.func92, Tryz.ntmps92
        go_wp2
        go_ret
        exact ⟨rfl, rfl⟩
    · have h2' : (k == 2) = false := by simpa using h2
      clear h2
      have hr : V.okB ⟨k, n, s⟩ = false := by simp [V.okB, h1', h2']
      rw [hr]
      clear hr
      go_enter Tryz.func92, Tryz.ntmps92
      go_wp2
      go_ret
      exact ⟨rfl, rfl⟩
set_option maxHeartbeats 400000 in
theorem ref4_less (k n : Int) (s : ByteArray) (k2 n2 : Int) (s2 : ByteArray) (w : World) :
    Calls Tryz.prog 96 #[.agg #[.int .i64 k, .int .i64 n, .string s], .agg #[.int .i64 k2, .int .i64 n2, .string s2]] w fun e w' =>
      e = .returned (.bool (V.lt ⟨k, n, s⟩ ⟨k2, n2, s2⟩)) ∧ Below w.heap.size w w' := by
  have hr1 := Lib.hid (ref4_right k n s)
  have hr2 := Lib.hid (ref4_right k2 n2 s2)
  unfold V.lt
  generalize V.okB ⟨k, n, s⟩ = q at *
  generalize V.okB ⟨k2, n2, s2⟩ = q2 at *
  cases q
  · rw [Bool.false_and, Bool.false_and]
    clear hr2
    go_enter Tryz.func96, Tryz.ntmps96
    go_wp2_with fail
    refine (hr1.out _).mono ?_
    rintro e w' ⟨rfl, rfl⟩
    go_wp2_with fail
    go_ret
    exact ⟨rfl, by repeat (first | exact Below.refl _ _ | refine Below.alloc ?_ (by simp <;> omega) _)⟩
  · cases q2
    · rw [Bool.and_false, Bool.false_and]
      go_enter Tryz.func96, Tryz.ntmps96
      go_wp2_with fail
      refine (hr1.out _).mono ?_
      rintro e w' ⟨rfl, rfl⟩
      go_wp2_with fail
      refine (hr2.out _).mono ?_
      rintro e w' ⟨rfl, rfl⟩
      go_wp2_with fail
      go_ret
      exact ⟨rfl, by repeat (first | exact Below.refl _ _ | refine Below.alloc ?_ (by simp <;> omega) _)⟩
    · rw [Bool.and_self, Bool.true_and]
      by_cases h1 : (k != k2) = true
      · have e0 : V.ltIn ⟨k, n, s⟩ ⟨k2, n2, s2⟩ = (k == 1) := if_pos h1
        rw [e0]
        clear e0
        go_enter Tryz.func96, Tryz.ntmps96
        go_wp2_with fail
        refine (hr1.out _).mono ?_
        rintro e w' ⟨rfl, rfl⟩
        go_wp2_with fail
        refine (hr2.out _).mono ?_
        rintro e w' ⟨rfl, rfl⟩
        go_wp2_with fail
        go_ret
        exact ⟨rfl, by repeat (first | exact Below.refl _ _ | refine Below.alloc ?_ (by simp <;> omega) _)⟩
      · have h1' : (k != k2) = false := by simpa using h1
        by_cases h2 : (k == 1) = true
        · have e0 : V.ltIn ⟨k, n, s⟩ ⟨k2, n2, s2⟩ = decide (n < n2) := (if_neg h1).trans (if_pos h2)
          rw [e0]
          clear e0 h1
          go_enter Tryz.func96, Tryz.ntmps96
          go_wp2_with fail
          refine (hr1.out _).mono ?_
          rintro e w' ⟨rfl, rfl⟩
          go_wp2_with fail
          refine (hr2.out _).mono ?_
          rintro e w' ⟨rfl, rfl⟩
          go_wp2_with fail
          go_ret
          exact ⟨rfl, by repeat (first | exact Below.refl _ _ | refine Below.alloc ?_ (by simp <;> omega) _)⟩
        · have h2' : (k == 1) = false := by simpa using h2
          have e0 : V.ltIn ⟨k, n, s⟩ ⟨k2, n2, s2⟩ = Op.bytesLess s.toList s2.toList := (if_neg h1).trans (if_neg h2)
          rw [e0]
          clear e0 h1 h2
          go_enter Tryz.func96, Tryz.ntmps96
          go_wp2_with fail
          refine (hr1.out _).mono ?_
          rintro e w' ⟨rfl, rfl⟩
          go_wp2_with fail
          refine (hr2.out _).mono ?_
          rintro e w' ⟨rfl, rfl⟩
          go_wp2_with fail
          go_ret
          exact ⟨rfl, by repeat (first | exact Below.refl _ _ | refine Below.alloc ?_ (by simp <;> omega) _)⟩

end Go.Proofs.YtajnnkapgnmoaaaGreat
/-
  Package confluenceref5's Right, Less, Same: the same values as row's.
-/
namespace Go.Proofs.YtajnnkapgnmoaaaGreat
open Go.RowKit
/-- where a row's values stand, while the world grows -/
def VGet (w : World) (A : Option Addr) (l : List V) : Prop := ∀ w1, Below w.heap.size w w1 → ∀ k v, l[k]? = some v → ∃ b o, A = some ⟨b, o, none⟩ ∧ b < w.heap.size ∧
  w1.cell? ⟨b, o + k * 3, none⟩ = some (.int .i64 v.k) ∧ w1.cell? ⟨b, o + k * 3 + 1, none⟩ = some (.int .i64 v.n) ∧ w1.cell? ⟨b, o + k * 3 + 2, none⟩ = some (.string v.s)
theorem VRow.get_ {w : World} {A : Option Addr} {l : List V} (h : VRow w w.heap.size A l) : VGet w A l := by
  intro w1 hb k v hv
  rcases h with rfl | ⟨b, o, rfl, hlt, hA⟩
  · simp at hv
  · exact ⟨b, o, rfl, hlt, hA.below hb hlt k v hv⟩
theorem all_step {l : List V} {k : Nat} {v : V} (hv : l[k]? = some v) : (l.drop k).all V.okB = (V.okB v && (l.drop (k + 1)).all V.okB) := by
  obtain ⟨h1, e1⟩ := List.getElem?_eq_some_iff.1 hv
  rw [List.drop_eq_getElem_cons h1, e1]
  rfl
set_option maxHeartbeats 400000 in
theorem ref5_right (A : Option Addr) (c : Nat) (l : List V) (hn : l.length ≤ 9223372036854775807) (w : World) (hA : VRow w w.heap.size A l) :
    Calls Tryz.prog 57 #[.slice A l.length c] w fun e w' => e = .returned (.bool (rowOk l)) ∧ Below w.heap.size w w' := by
  have HA := Lib.hid hA.get_
  obtain ⟨n, en⟩ : ∃ n, n = l.length := ⟨_, rfl⟩
  have hr : Hid (rowOk l = if l.all V.okB then (decide ((1 : Int) ≤ n) && decide ((n : Int) ≤ 6)) else false) := Lib.hid (by
    unfold rowOk
    rw [← en]
    have a1 : decide (0 < n) = decide ((1 : Int) ≤ n) := by rw [decide_eq_decide]; omega
    have a2 : decide (n ≤ 6) = decide ((n : Int) ≤ 6) := by rw [decide_eq_decide]; omega
    rw [a1, a2]
    cases l.all V.okB
    · rw [Bool.and_false, if_neg (by decide)]
    · rw [Bool.and_true, if_pos rfl])
  have Hn := Lib.hid en
  rw [← en] at hn ⊢
  clear hA en
  go_enter Tryz.func57, Tryz.ntmps57
  go_wp2_with fail
  go_loopw [3] (fun i wr => ∃ k : Nat, k ≤ n ∧ i = .int .i64 k ∧ Below w.heap.size w wr ∧ Hid (l.all V.okB = (l.drop k).all V.okB)) (fun i _ => n - (intOf i).toNat)
  case atStart => exact ⟨0, Nat.zero_le _, rfl, Below.refl _ _, rfl⟩
  case round =>
    obtain ⟨k, hk, rfl, hb, hz⟩ := hrel
    have HB := Lib.hid hb
    by_cases hlt : k < n
    · obtain ⟨v, hv⟩ : ∃ v, l[k]? = some v := ⟨_, List.getElem?_eq_getElem (by rw [← Hn.out]; exact hlt)⟩
      obtain ⟨b, o, rfl, hbl, v1, v2, v3⟩ := HA.out wr hb k v hv
      have hst := Lib.hid (hz.out.trans (all_step hv))
      clear hv hz hb
      obtain ⟨vk, vn, vs⟩ := v
      have hi0 : (0 : Int) ≤ (k : Int) := by omega
      have hi1 : (k : Int) < (n : Int) := by omega
      have hq := Lib.hid (ref4_right vk vn vs)
      cases hok : V.okB ⟨vk, vn, vs⟩
      · rw [hok] at hst hq
        have hf : Hid (rowOk l = false) := Lib.hid (by rw [hr.out, hst.out]; rfl)
        clear hst hok
        go_wp2_with fail
        refine (hq.out _).mono ?_
        rintro e w' ⟨rfl, rfl⟩
        go_wp2_with fail
        go_ret
        exact ⟨by rw [hf.out]; rfl, HB.out.alloc HB.out.size _⟩
      · rw [hok, Bool.true_and] at hst
        rw [hok] at hq
        clear hok
        go_wp2_with fail
        refine (hq.out _).mono ?_
        rintro e w' ⟨rfl, rfl⟩
        go_wp2_with fail
        go_roundw
        case rel => exact ⟨k + 1, by omega, by go_num, HB.out.alloc HB.out.size _, hst⟩
        case measure => simp [intOf]; omega
    · have hall : Hid (rowOk l = (decide ((1 : Int) ≤ n) && decide ((n : Int) ≤ 6))) := Lib.hid (by
        have := hz.out
        rw [List.drop_of_length_le (by rw [← Hn.out]; omega)] at this
        rw [hr.out, this]
        rfl)
      clear hz hr
      by_cases h1 : (1 : Int) ≤ n
      · have d1 : decide ((1 : Int) ≤ n) = true := decide_eq_true h1
        rw [d1, Bool.true_and] at hall
        go_wp2_with fail
        go_ret
        exact ⟨by rw [hall.out]; rfl, HB.out⟩
      · have d1 : decide ((1 : Int) ≤ n) = false := decide_eq_false h1
        rw [d1, Bool.false_and] at hall
        go_wp2_with fail
        go_ret
        exact ⟨by rw [hall.out]; rfl, HB.out⟩

/-- two rows, held against one another from a place on, as the document does it -/
def refLt : List V → List V → Bool
  | a :: x, b :: y => if V.lt a b then true else if V.lt b a then false else refLt x y
  | [], _ :: _ => true
  | _, _ => false
theorem refLt_cmp : ∀ a b : List V, refLt a b = decide (cmpR a b < 0)
  | [], [] => rfl
  | [], _ :: _ => rfl
  | _ :: _, [] => rfl
  | a :: x, b :: y => by
    have h := refLt_cmp x y
    unfold refLt
    have e : cmpR (a :: x) (b :: y) = if (V.cmp a b != 0) = true then V.cmp a b else cmpR x y := rfl
    rw [e, h]
    unfold V.cmp
    cases V.lt a b <;> cases V.lt b a <;> simp
theorem refLt_step {a b : List V} {k : Nat} {x y : V} (hx : a[k]? = some x) (hy : b[k]? = some y) : refLt (a.drop k) (b.drop k) = if V.lt x y then true else if V.lt y x then false else refLt (a.drop (k + 1)) (b.drop (k + 1)) := by
  obtain ⟨h1, e1⟩ := List.getElem?_eq_some_iff.1 hx
  obtain ⟨h2, e2⟩ := List.getElem?_eq_some_iff.1 hy
  rw [List.drop_eq_getElem_cons h1, List.drop_eq_getElem_cons h2, e1, e2]
  rfl
theorem refLt_end {a b : List V} {k : Nat} (h : a.length ≤ k ∨ b.length ≤ k) (ha : k ≤ a.length) (hb : k ≤ b.length) : refLt (a.drop k) (b.drop k) = decide (a.length < b.length) := by
  by_cases h1 : k < b.length
  · have e : a.length = k := by omega
    rw [List.drop_of_length_le (l := a) (by omega), List.drop_eq_getElem_cons h1]
    rw [decide_eq_true (by omega)]
    rfl
  · rw [List.drop_of_length_le (l := b) (by omega), decide_eq_false (by omega)]
    cases a.drop k <;> rfl
set_option maxHeartbeats 1000000 in
set_option maxRecDepth 100000 in
theorem ref5_less_in (A D : Option Addr) (c d : Nat) (a b : List V) (ha : a.length ≤ 9223372036854775807) (hb : b.length ≤ 9223372036854775807) (w : World) (hA : VRow w w.heap.size A a) (hD : VRow w w.heap.size D b) :
    Calls Tryz.prog 58 #[.slice A a.length c, .slice D b.length d] w fun e w' => e = .returned (.bool (rowLess a b)) ∧ Below w.heap.size w w' := by
  have HA := Lib.hid hA.get_
  have HD := Lib.hid hD.get_
  have h1 := Lib.hid (ref5_right A c a ha w hA)
  have h2 : Hid (∀ w1, Below w.heap.size w w1 → Calls Tryz.prog 57 #[.slice D b.length d] w1 fun e w' => e = .returned (.bool (rowOk b)) ∧ Below w1.heap.size w1 w') :=
    Lib.hid fun w1 hb1 => ref5_right D d b hb w1 ((hD.below hb1).more hb1.size)
  unfold rowLess
  rw [← refLt_cmp]
  have hend : Hid (∀ k, (a.length ≤ k ∨ b.length ≤ k) → k ≤ a.length → k ≤ b.length → refLt (a.drop k) (b.drop k) = decide (a.length < b.length)) := Lib.hid fun k => refLt_end
  obtain ⟨n, en⟩ : ∃ n, n = a.length := ⟨_, rfl⟩
  obtain ⟨m, em⟩ : ∃ m, m = b.length := ⟨_, rfl⟩
  have Hn := Lib.hid en
  have Hm := Lib.hid em
  rw [← en] at ha h1 hend ⊢
  rw [← em] at hb h2 hend ⊢
  clear hA hD en em
  generalize rowOk a = p at *
  generalize rowOk b = q at *
  cases p
  · rw [Bool.false_and, Bool.false_and]
    go_enter Tryz.func58, Tryz.ntmps58
    go_wp2_with fail
    refine h1.out.mono ?_
    rintro e w1 ⟨rfl, hb1⟩
    have HB := Lib.hid hb1
    clear hb1
    go_wp2_with fail
    go_ret
    exact ⟨rfl, HB.out⟩
  cases q
  · rw [Bool.and_false, Bool.false_and]
    go_enter Tryz.func58, Tryz.ntmps58
    go_wp2_with fail
    refine h1.out.mono ?_
    rintro e w1 ⟨rfl, hb1⟩
    have HB := Lib.hid hb1
    clear hb1
    go_wp2_with fail
    refine (h2.out _ HB.out).mono ?_
    rintro e w2 ⟨rfl, hb2⟩
    have HB2 := Lib.hid (HB.out.trans (hb2.mono HB.out.size))
    clear hb2
    go_wp2_with fail
    go_ret
    exact ⟨rfl, HB2.out⟩
  rw [Bool.and_self, Bool.true_and]
  go_enter Tryz.func58, Tryz.ntmps58
  go_wp2_with fail
  refine h1.out.mono ?_
  rintro e w1 ⟨rfl, hb1⟩
  have HB := Lib.hid hb1
  clear hb1
  go_wp2_with fail
  refine (h2.out _ HB.out).mono ?_
  rintro e w2 ⟨rfl, hb2⟩
  have HB2 := Lib.hid (HB.out.trans (hb2.mono HB.out.size))
  clear hb2 h1 h2 HB
  go_wp2_with fail
  go_loopw [5] (fun i wr => ∃ k : Nat, k ≤ n ∧ k ≤ m ∧ i = .int .i64 k ∧ Below w.heap.size w wr ∧ Hid (refLt a b = refLt (a.drop k) (b.drop k))) (fun i _ => n - (intOf i).toNat)
  case atStart => exact ⟨0, Nat.zero_le _, Nat.zero_le _, rfl, HB2.out, rfl⟩
  case round =>
    obtain ⟨k, hk, hkm, rfl, hb, hz⟩ := hrel
    have HB := Lib.hid hb
    clear HB2
    by_cases hlt : k < n ∧ k < m
    · obtain ⟨hlt, hlm⟩ := hlt
      obtain ⟨x, hx⟩ : ∃ x, a[k]? = some x := ⟨_, List.getElem?_eq_getElem (by rw [← Hn.out]; exact hlt)⟩
      obtain ⟨y, hy⟩ : ∃ y, b[k]? = some y := ⟨_, List.getElem?_eq_getElem (by rw [← Hm.out]; exact hlm)⟩
      have hst := Lib.hid (hz.out.trans (refLt_step hx hy))
      obtain ⟨ab, ao, rfl, hab, _⟩ := HA.out wr hb k x hx
      obtain ⟨bb, bo, rfl, hbb, _⟩ := HD.out wr hb k y hy
      have hcells : Hid (∀ w1, Below w.heap.size w w1 → (w1.cell? ⟨ab, ao + k * 3, none⟩ = some (.int .i64 x.k) ∧ w1.cell? ⟨ab, ao + k * 3 + 1, none⟩ = some (.int .i64 x.n) ∧ w1.cell? ⟨ab, ao + k * 3 + 2, none⟩ = some (.string x.s)) ∧
          (w1.cell? ⟨bb, bo + k * 3, none⟩ = some (.int .i64 y.k) ∧ w1.cell? ⟨bb, bo + k * 3 + 1, none⟩ = some (.int .i64 y.n) ∧ w1.cell? ⟨bb, bo + k * 3 + 2, none⟩ = some (.string y.s))) := Lib.hid fun w1 h1 => by
        obtain ⟨_, _, e1, _, g1⟩ := HA.out w1 h1 k x hx
        obtain ⟨_, _, e2, _, g2⟩ := HD.out w1 h1 k y hy
        cases e1
        cases e2
        exact ⟨g1, g2⟩
      clear hx hy hz hb
      obtain ⟨xk, xn, xs⟩ := x
      obtain ⟨yk, yn, ys⟩ := y
      have hi0 : (0 : Int) ≤ (k : Int) := by omega
      have hi1 : (k : Int) < (n : Int) := by omega
      have hi2 : (k : Int) < (m : Int) := by omega
      obtain ⟨⟨v1, v2, v3⟩, ⟨u1, u2, u3⟩⟩ := hcells.out wr HB.out
      have hq1 := Lib.hid (ref4_less xk xn xs yk yn ys)
      have hq2 := Lib.hid (ref4_less yk yn ys xk xn xs)
      generalize V.lt ⟨xk, xn, xs⟩ ⟨yk, yn, ys⟩ = lt1 at *
      generalize V.lt ⟨yk, yn, ys⟩ ⟨xk, xn, xs⟩ = lt2 at *
      cases lt1
      · cases lt2
        · have hst : Hid (refLt a b = refLt (a.drop (k + 1)) (b.drop (k + 1))) := hst
          go_wp2_with fail
          go_still_tail 8, (by kernel_rfl)
          change wpList _ _ _ _ _ wr.drew
          go_wp2_with fail
          refine (hq1.out _).mono ?_
          rintro e w3 ⟨rfl, hb3⟩
          have B3 := Lib.hid (HB.out.drew.trans (hb3.mono HB.out.size))
          clear hb3
          obtain ⟨⟨v1, v2, v3⟩, ⟨u1, u2, u3⟩⟩ := hcells.out w3 B3.out
          go_wp2_with fail
          go_still_tail 8, (by kernel_rfl)
          change wpList _ _ _ _ _ w3.drew
          go_wp2_with fail
          refine (hq2.out _).mono ?_
          rintro e w4 ⟨rfl, hb4⟩
          have B4 := Lib.hid (B3.out.drew.trans (hb4.mono B3.out.size))
          clear hb4
          go_wp2_with fail
          go_roundw
          case rel => exact ⟨k + 1, by omega, by omega, by go_num, B4.out, hst⟩
          case measure => simp [intOf]; omega
        · have hst : Hid (refLt a b = false) := hst
          go_wp2_with fail
          go_still_tail 8, (by kernel_rfl)
          change wpList _ _ _ _ _ wr.drew
          go_wp2_with fail
          refine (hq1.out _).mono ?_
          rintro e w3 ⟨rfl, hb3⟩
          have B3 := Lib.hid (HB.out.drew.trans (hb3.mono HB.out.size))
          clear hb3
          obtain ⟨⟨v1, v2, v3⟩, ⟨u1, u2, u3⟩⟩ := hcells.out w3 B3.out
          go_wp2_with fail
          go_still_tail 8, (by kernel_rfl)
          change wpList _ _ _ _ _ w3.drew
          go_wp2_with fail
          refine (hq2.out _).mono ?_
          rintro e w4 ⟨rfl, hb4⟩
          have B4 := Lib.hid (B3.out.drew.trans (hb4.mono B3.out.size))
          clear hb4
          go_wp2_with fail
          go_ret
          exact ⟨by rw [hst.out]; rfl, B4.out⟩
      · have hst : Hid (refLt a b = true) := hst
        go_wp2_with fail
        go_still_tail 8, (by kernel_rfl)
        change wpList _ _ _ _ _ wr.drew
        go_wp2_with fail
        refine (hq1.out _).mono ?_
        rintro e w3 ⟨rfl, hb3⟩
        have B3 := Lib.hid (HB.out.drew.trans (hb3.mono HB.out.size))
        clear hb3
        go_wp2_with fail
        go_ret
        exact ⟨by rw [hst.out]; rfl, B3.out⟩
    · have hf : Hid (refLt a b = decide (n < m)) := Lib.hid (hz.out.trans (hend.out k (by omega) hk hkm))
      clear hz
      by_cases h1 : k < n
      · have h2 : ¬ k < m := by omega
        go_wp2_with fail
        go_ret
        exact ⟨by rw [hf.out]; rfl, HB.out⟩
      · go_wp2_with fail
        go_ret
        exact ⟨by rw [hf.out]; rfl, HB.out⟩
end Go.Proofs.YtajnnkapgnmoaaaGreat
/-
  Package confluenceref5's Same: the same value as row's.
-/
namespace Go.Proofs.YtajnnkapgnmoaaaGreat
open Go.RowKit
theorem refSame_eq (a b : List V) : rowSame a b = ((((rowOk a && rowOk b) && !rowLess a b) && !rowLess b a) && (a.length == b.length)) := by
  unfold rowSame rowLess
  cases ha : rowOk a
  · simp
  cases hb : rowOk b
  · simp
  rcases cmpR_tri a b (rowOk_all ha) (rowOk_all hb) with ⟨h1, h2, _⟩ | ⟨h1, h2, _⟩ | ⟨h1, h2, h3⟩
  · rw [h1, h2]; simp
  · rw [h1, h2]; simp
  · rw [h1, h2, h3]; simp
set_option maxHeartbeats 1000000 in
theorem ref5_same (A D : Option Addr) (c d : Nat) (a b : List V) (ha : a.length ≤ 9223372036854775807) (hb : b.length ≤ 9223372036854775807) (w : World) (hA : VRow w w.heap.size A a) (hD : VRow w w.heap.size D b) :
    Calls Tryz.prog 59 #[.slice A a.length c, .slice D b.length d] w fun e w' => e = .returned (.bool (rowSame a b)) ∧ Below w.heap.size w w' := by
  have h1 := Lib.hid (ref5_right A c a ha w hA)
  have h2 : Hid (∀ w1, Below w.heap.size w w1 → Calls Tryz.prog 57 #[.slice D b.length d] w1 fun e w' => e = .returned (.bool (rowOk b)) ∧ Below w1.heap.size w1 w') :=
    Lib.hid fun w1 hb1 => ref5_right D d b hb w1 ((hD.below hb1).more hb1.size)
  have h3 : Hid (∀ w1, Below w.heap.size w w1 → Calls Tryz.prog 58 #[.slice A a.length c, .slice D b.length d] w1 fun e w' => e = .returned (.bool (rowLess a b)) ∧ Below w1.heap.size w1 w') :=
    Lib.hid fun w1 hb1 => ref5_less_in A D c d a b ha hb w1 ((hA.below hb1).more hb1.size) ((hD.below hb1).more hb1.size)
  have h4 : Hid (∀ w1, Below w.heap.size w w1 → Calls Tryz.prog 58 #[.slice D b.length d, .slice A a.length c] w1 fun e w' => e = .returned (.bool (rowLess b a)) ∧ Below w1.heap.size w1 w') :=
    Lib.hid fun w1 hb1 => ref5_less_in D A d c b a hb ha w1 ((hD.below hb1).more hb1.size) ((hA.below hb1).more hb1.size)
  rw [refSame_eq]
  clear hA hD
  generalize rowOk a = p at *
  generalize rowOk b = q at *
  generalize rowLess a b = la at *
  generalize rowLess b a = lb at *
  generalize a.length = n at *
  generalize b.length = m at *
  cases p
  · simp only [Bool.false_and]
    go_enter Tryz.func59, Tryz.ntmps59
    go_wp2_with fail
    refine h1.out.mono ?_
    rintro e w1 ⟨rfl, b1⟩
    have B1 := Lib.hid b1
    clear b1
    go_wp2_with fail
    go_ret
    exact ⟨rfl, B1.out⟩
  cases q
  · simp only [Bool.false_and, Bool.and_false]
    go_enter Tryz.func59, Tryz.ntmps59
    go_wp2_with fail
    refine h1.out.mono ?_
    rintro e w1 ⟨rfl, b1⟩
    have B1 := Lib.hid b1
    clear b1
    go_wp2_with fail
    refine (h2.out _ B1.out).mono ?_
    rintro e w2 ⟨rfl, b2⟩
    have B2 := Lib.hid (B1.out.trans (b2.mono B1.out.size))
    clear b2
    go_wp2_with fail
    go_ret
    exact ⟨rfl, B2.out⟩
  simp only [Bool.true_and]
  cases la
  · simp only [Bool.not_false, Bool.true_and]
    cases lb
    · simp only [Bool.not_false, Bool.true_and]
      have hc : Hid ((n == m) = ((n : Int) == (m : Int))) := Lib.hid (by rw [Bool.eq_iff_iff, beq_iff_eq, beq_iff_eq]; omega)
      go_enter Tryz.func59, Tryz.ntmps59
      go_wp2_with fail
      refine h1.out.mono ?_
      rintro e w1 ⟨rfl, b1⟩
      have B1 := Lib.hid b1
      clear b1
      go_wp2_with fail
      refine (h2.out _ B1.out).mono ?_
      rintro e w2 ⟨rfl, b2⟩
      have B2 := Lib.hid (B1.out.trans (b2.mono B1.out.size))
      clear b2
      go_wp2_with fail
      refine (h3.out _ B2.out).mono ?_
      rintro e w3 ⟨rfl, b3⟩
      have B3 := Lib.hid (B2.out.trans (b3.mono B2.out.size))
      clear b3
      go_wp2_with fail
      refine (h4.out _ B3.out).mono ?_
      rintro e w4 ⟨rfl, b4⟩
      have B4 := Lib.hid (B3.out.trans (b4.mono B3.out.size))
      clear b4
      go_wp2_with fail
      go_ret
      exact ⟨by first | rfl | (rw [hc.out]; done) | (rw [hc.out]; rfl), B4.out⟩
    · simp only [Bool.not_true, Bool.false_and]
      go_enter Tryz.func59, Tryz.ntmps59
      go_wp2_with fail
      refine h1.out.mono ?_
      rintro e w1 ⟨rfl, b1⟩
      have B1 := Lib.hid b1
      clear b1
      go_wp2_with fail
      refine (h2.out _ B1.out).mono ?_
      rintro e w2 ⟨rfl, b2⟩
      have B2 := Lib.hid (B1.out.trans (b2.mono B1.out.size))
      clear b2
      go_wp2_with fail
      refine (h3.out _ B2.out).mono ?_
      rintro e w3 ⟨rfl, b3⟩
      have B3 := Lib.hid (B2.out.trans (b3.mono B2.out.size))
      clear b3
      go_wp2_with fail
      refine (h4.out _ B3.out).mono ?_
      rintro e w4 ⟨rfl, b4⟩
      have B4 := Lib.hid (B3.out.trans (b4.mono B3.out.size))
      clear b4
      go_wp2_with fail
      go_ret
      exact ⟨rfl, B4.out⟩
  · simp only [Bool.not_true, Bool.false_and]
    go_enter Tryz.func59, Tryz.ntmps59
    go_wp2_with fail
    refine h1.out.mono ?_
    rintro e w1 ⟨rfl, b1⟩
    have B1 := Lib.hid b1
    clear b1
    go_wp2_with fail
    refine (h2.out _ B1.out).mono ?_
    rintro e w2 ⟨rfl, b2⟩
    have B2 := Lib.hid (B1.out.trans (b2.mono B1.out.size))
    clear b2
    go_wp2_with fail
    refine (h3.out _ B2.out).mono ?_
    rintro e w3 ⟨rfl, b3⟩
    have B3 := Lib.hid (B2.out.trans (b3.mono B2.out.size))
    clear b3
    go_wp2_with fail
    go_ret
    exact ⟨rfl, B3.out⟩

end Go.Proofs.YtajnnkapgnmoaaaGreat
