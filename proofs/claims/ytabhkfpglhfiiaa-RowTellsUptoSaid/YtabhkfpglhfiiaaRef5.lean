/-
  Package confluenceref5's Right, Less, Same: the same values as row's.
-/
import Derived.Test.YtabhkfpglhfiiaaRef4
import Derived.Test.YtabhkfpglhfiiaaCmp
import Derived.StillTailTactics
namespace Go.Proofs.Ytabhkfpglhfiiaa
open Go.RowKit
/-- where a row's values stand, while the world grows -/
def VGet (w : World) (A : Option Addr) (l : List V) : Prop := ∀ w1, Below w.heap.size w w1 → ∀ k v, l[k]? = some v → ∃ b o, A = some ⟨b, o, none⟩ ∧ b < w.heap.size ∧
  w1.cell? ⟨b, o + k * 3, none⟩ = some (.int .i64 v.k) ∧ w1.cell? ⟨b, o + k * 3 + 1, none⟩ = some (.int .i64 v.n) ∧ w1.cell? ⟨b, o + k * 3 + 2, none⟩ = some (.string v.s)
theorem VRow.get_ {w : World} {A : Option Addr} {l : List V} (h : VRow w w.heap.size A l) : VGet w A l := by
  intro w1 hb k v hv
  rcases h with rfl | ⟨b, o, rfl, hlt, hA⟩
  · simp at hv
  · exact ⟨b, o, rfl, hlt, hA.below hb hlt k v hv⟩
theorem all_step {l : List V} {k : Nat} {v : V} (hv : l[k]? = some v) : (l.drop k).all V.okB = (V.okB v && (l.drop (k + 1)).all V.okB) := by
  obtain ⟨h1, e1⟩ := List.getElem?_eq_some_iff.1 hv
  rw [List.drop_eq_getElem_cons h1, e1]
  rfl
set_option maxHeartbeats 400000 in
theorem ref5_right (A : Option Addr) (c : Nat) (l : List V) (hn : l.length ≤ 9223372036854775807) (w : World) (hA : VRow w w.heap.size A l) :
    Calls Try.prog 44 #[.slice A l.length c] w fun e w' => e = .returned (.bool (rowOk l)) ∧ Below w.heap.size w w' := by
  have HA := Lib.hid hA.get_
  obtain ⟨n, en⟩ : ∃ n, n = l.length := ⟨_, rfl⟩
  have hr : Hid (rowOk l = if l.all V.okB then (decide ((1 : Int) ≤ n) && decide ((n : Int) ≤ 6)) else false) := Lib.hid (by
    unfold rowOk
    rw [← en]
    have a1 : decide (0 < n) = decide ((1 : Int) ≤ n) := by rw [decide_eq_decide]; omega
    have a2 : decide (n ≤ 6) = decide ((n : Int) ≤ 6) := by rw [decide_eq_decide]; omega
    rw [a1, a2]
    cases l.all V.okB
    · rw [Bool.and_false, if_neg (by decide)]
    · rw [Bool.and_true, if_pos rfl])
  have Hn := Lib.hid en
  rw [← en] at hn ⊢
  clear hA en
  go_enter Try.func44, Try.ntmps44
  go_wp2_with fail
  go_loopw [3] (fun i wr => ∃ k : Nat, k ≤ n ∧ i = .int .i64 k ∧ Below w.heap.size w wr ∧ Hid (l.all V.okB = (l.drop k).all V.okB)) (fun i _ => n - (intOf i).toNat)
  case atStart => exact ⟨0, Nat.zero_le _, rfl, Below.refl _ _, rfl⟩
  case round =>
    obtain ⟨k, hk, rfl, hb, hz⟩ := hrel
    have HB := Lib.hid hb
    by_cases hlt : k < n
    · obtain ⟨v, hv⟩ : ∃ v, l[k]? = some v := ⟨_, List.getElem?_eq_getElem (by rw [← Hn.out]; exact hlt)⟩
      obtain ⟨b, o, rfl, hbl, v1, v2, v3⟩ := HA.out wr hb k v hv
      have hst := Lib.hid (hz.out.trans (all_step hv))
      clear hv hz hb
      obtain ⟨vk, vn, vs⟩ := v
      have hi0 : (0 : Int) ≤ (k : Int) := by omega
      have hi1 : (k : Int) < (n : Int) := by omega
      have hq := Lib.hid (ref4_right vk vn vs)
      cases hok : V.okB ⟨vk, vn, vs⟩
      · rw [hok] at hst hq
        have hf : Hid (rowOk l = false) := Lib.hid (by rw [hr.out, hst.out]; rfl)
        clear hst hok
        go_wp2_with fail
        refine (hq.out _).mono ?_
        rintro e w' ⟨rfl, rfl⟩
        go_wp2_with fail
        go_ret
        exact ⟨by rw [hf.out]; rfl, HB.out.alloc HB.out.size _⟩
      · rw [hok, Bool.true_and] at hst
        rw [hok] at hq
        clear hok
        go_wp2_with fail
        refine (hq.out _).mono ?_
        rintro e w' ⟨rfl, rfl⟩
        go_wp2_with fail
        go_roundw
        case rel => exact ⟨k + 1, by omega, by go_num, HB.out.alloc HB.out.size _, hst⟩
        case measure => simp [intOf]; omega
    · have hall : Hid (rowOk l = (decide ((1 : Int) ≤ n) && decide ((n : Int) ≤ 6))) := Lib.hid (by
        have := hz.out
        rw [List.drop_of_length_le (by rw [← Hn.out]; omega)] at this
        rw [hr.out, this]
        rfl)
      clear hz hr
      by_cases h1 : (1 : Int) ≤ n
      · have d1 : decide ((1 : Int) ≤ n) = true := decide_eq_true h1
        rw [d1, Bool.true_and] at hall
        go_wp2_with fail
        go_ret
        exact ⟨by rw [hall.out]; rfl, HB.out⟩
      · have d1 : decide ((1 : Int) ≤ n) = false := decide_eq_false h1
        rw [d1, Bool.false_and] at hall
        go_wp2_with fail
        go_ret
        exact ⟨by rw [hall.out]; rfl, HB.out⟩

/-- two rows, held against one another from a place on, as the document does it -/
def refLt : List V → List V → Bool
  | a :: x, b :: y => if V.lt a b then true else if V.lt b a then false else refLt x y
  | [], _ :: _ => true
  | _, _ => false
theorem refLt_cmp : ∀ a b : List V, refLt a b = decide (cmpR a b < 0)
  | [], [] => rfl
  | [], _ :: _ => rfl
  | _ :: _, [] => rfl
  | a :: x, b :: y => by
    have h := refLt_cmp x y
    unfold refLt
    have e : cmpR (a :: x) (b :: y) = if (V.cmp a b != 0) = true then V.cmp a b else cmpR x y := rfl
    rw [e, h]
    unfold V.cmp
    cases V.lt a b <;> cases V.lt b a <;> simp
theorem refLt_step {a b : List V} {k : Nat} {x y : V} (hx : a[k]? = some x) (hy : b[k]? = some y) : refLt (a.drop k) (b.drop k) = if V.lt x y then true else if V.lt y x then false else refLt (a.drop (k + 1)) (b.drop (k + 1)) := by
  obtain ⟨h1, e1⟩ := List.getElem?_eq_some_iff.1 hx
  obtain ⟨h2, e2⟩ := List.getElem?_eq_some_iff.1 hy
  rw [List.drop_eq_getElem_cons h1, List.drop_eq_getElem_cons h2, e1, e2]
  rfl
theorem refLt_end {a b : List V} {k : Nat} (h : a.length ≤ k ∨ b.length ≤ k) (ha : k ≤ a.length) (hb : k ≤ b.length) : refLt (a.drop k) (b.drop k) = decide (a.length < b.length) := by
  by_cases h1 : k < b.length
  · have e : a.length = k := by omega
    rw [List.drop_of_length_le (l := a) (by omega), List.drop_eq_getElem_cons h1]
    rw [decide_eq_true (by omega)]
    rfl
  · rw [List.drop_of_length_le (l := b) (by omega), decide_eq_false (by omega)]
    cases a.drop k <;> rfl
set_option maxHeartbeats 1000000 in
set_option maxRecDepth 100000 in
theorem ref5_less_in (A D : Option Addr) (c d : Nat) (a b : List V) (ha : a.length ≤ 9223372036854775807) (hb : b.length ≤ 9223372036854775807) (w : World) (hA : VRow w w.heap.size A a) (hD : VRow w w.heap.size D b) :
    Calls Try.prog 45 #[.slice A a.length c, .slice D b.length d] w fun e w' => e = .returned (.bool (rowLess a b)) ∧ Below w.heap.size w w' := by
  have HA := Lib.hid hA.get_
  have HD := Lib.hid hD.get_
  have h1 := Lib.hid (ref5_right A c a ha w hA)
  have h2 : Hid (∀ w1, Below w.heap.size w w1 → Calls Try.prog 44 #[.slice D b.length d] w1 fun e w' => e = .returned (.bool (rowOk b)) ∧ Below w1.heap.size w1 w') :=
    Lib.hid fun w1 hb1 => ref5_right D d b hb w1 ((hD.below hb1).more hb1.size)
  unfold rowLess
  rw [← refLt_cmp]
  have hend : Hid (∀ k, (a.length ≤ k ∨ b.length ≤ k) → k ≤ a.length → k ≤ b.length → refLt (a.drop k) (b.drop k) = decide (a.length < b.length)) := Lib.hid fun k => refLt_end
  obtain ⟨n, en⟩ : ∃ n, n = a.length := ⟨_, rfl⟩
  obtain ⟨m, em⟩ : ∃ m, m = b.length := ⟨_, rfl⟩
  have Hn := Lib.hid en
  have Hm := Lib.hid em
  rw [← en] at ha h1 hend ⊢
  rw [← em] at hb h2 hend ⊢
  clear hA hD en em
  generalize rowOk a = p at *
  generalize rowOk b = q at *
  cases p
  · rw [Bool.false_and, Bool.false_and]
    go_enter Try.func45, Try.ntmps45
    go_wp2_with fail
    refine h1.out.mono ?_
    rintro e w1 ⟨rfl, hb1⟩
    have HB := Lib.hid hb1
    clear hb1
    go_wp2_with fail
    go_ret
    exact ⟨rfl, HB.out⟩
  cases q
  · rw [Bool.and_false, Bool.false_and]
    go_enter Try.func45, Try.ntmps45
    go_wp2_with fail
    refine h1.out.mono ?_
    rintro e w1 ⟨rfl, hb1⟩
    have HB := Lib.hid hb1
    clear hb1
    go_wp2_with fail
    refine (h2.out _ HB.out).mono ?_
    rintro e w2 ⟨rfl, hb2⟩
    have HB2 := Lib.hid (HB.out.trans (hb2.mono HB.out.size))
    clear hb2
    go_wp2_with fail
    go_ret
    exact ⟨rfl, HB2.out⟩
  rw [Bool.and_self, Bool.true_and]
  go_enter Try.func45, Try.ntmps45
  go_wp2_with fail
  refine h1.out.mono ?_
  rintro e w1 ⟨rfl, hb1⟩
  have HB := Lib.hid hb1
  clear hb1
  go_wp2_with fail
  refine (h2.out _ HB.out).mono ?_
  rintro e w2 ⟨rfl, hb2⟩
  have HB2 := Lib.hid (HB.out.trans (hb2.mono HB.out.size))
  clear hb2 h1 h2 HB
  go_wp2_with fail
  go_loopw [5] (fun i wr => ∃ k : Nat, k ≤ n ∧ k ≤ m ∧ i = .int .i64 k ∧ Below w.heap.size w wr ∧ Hid (refLt a b = refLt (a.drop k) (b.drop k))) (fun i _ => n - (intOf i).toNat)
  case atStart => exact ⟨0, Nat.zero_le _, Nat.zero_le _, rfl, HB2.out, rfl⟩
  case round =>
    obtain ⟨k, hk, hkm, rfl, hb, hz⟩ := hrel
    have HB := Lib.hid hb
    clear HB2
    by_cases hlt : k < n ∧ k < m
    · obtain ⟨hlt, hlm⟩ := hlt
      obtain ⟨x, hx⟩ : ∃ x, a[k]? = some x := ⟨_, List.getElem?_eq_getElem (by rw [← Hn.out]; exact hlt)⟩
      obtain ⟨y, hy⟩ : ∃ y, b[k]? = some y := ⟨_, List.getElem?_eq_getElem (by rw [← Hm.out]; exact hlm)⟩
      have hst := Lib.hid (hz.out.trans (refLt_step hx hy))
      obtain ⟨ab, ao, rfl, hab, _⟩ := HA.out wr hb k x hx
      obtain ⟨bb, bo, rfl, hbb, _⟩ := HD.out wr hb k y hy
      have hcells : Hid (∀ w1, Below w.heap.size w w1 → (w1.cell? ⟨ab, ao + k * 3, none⟩ = some (.int .i64 x.k) ∧ w1.cell? ⟨ab, ao + k * 3 + 1, none⟩ = some (.int .i64 x.n) ∧ w1.cell? ⟨ab, ao + k * 3 + 2, none⟩ = some (.string x.s)) ∧
          (w1.cell? ⟨bb, bo + k * 3, none⟩ = some (.int .i64 y.k) ∧ w1.cell? ⟨bb, bo + k * 3 + 1, none⟩ = some (.int .i64 y.n) ∧ w1.cell? ⟨bb, bo + k * 3 + 2, none⟩ = some (.string y.s))) := Lib.hid fun w1 h1 => by
        obtain ⟨_, _, e1, _, g1⟩ := HA.out w1 h1 k x hx
        obtain ⟨_, _, e2, _, g2⟩ := HD.out w1 h1 k y hy
        cases e1
        cases e2
        exact ⟨g1, g2⟩
      clear hx hy hz hb
      obtain ⟨xk, xn, xs⟩ := x
      obtain ⟨yk, yn, ys⟩ := y
      have hi0 : (0 : Int) ≤ (k : Int) := by omega
      have hi1 : (k : Int) < (n : Int) := by omega
      have hi2 : (k : Int) < (m : Int) := by omega
      obtain ⟨⟨v1, v2, v3⟩, ⟨u1, u2, u3⟩⟩ := hcells.out wr HB.out
      have hq1 := Lib.hid (ref4_less xk xn xs yk yn ys)
      have hq2 := Lib.hid (ref4_less yk yn ys xk xn xs)
      generalize V.lt ⟨xk, xn, xs⟩ ⟨yk, yn, ys⟩ = lt1 at *
      generalize V.lt ⟨yk, yn, ys⟩ ⟨xk, xn, xs⟩ = lt2 at *
      cases lt1
      · cases lt2
        · have hst : Hid (refLt a b = refLt (a.drop (k + 1)) (b.drop (k + 1))) := hst
          go_wp2_with fail
          go_still_tail 8, (by kernel_rfl)
          change wpList _ _ _ _ _ wr.drew
          go_wp2_with fail
          refine (hq1.out _).mono ?_
          rintro e w3 ⟨rfl, hb3⟩
          have B3 := Lib.hid (HB.out.drew.trans (hb3.mono HB.out.size))
          clear hb3
          obtain ⟨⟨v1, v2, v3⟩, ⟨u1, u2, u3⟩⟩ := hcells.out w3 B3.out
          go_wp2_with fail
          go_still_tail 8, (by kernel_rfl)
          change wpList _ _ _ _ _ w3.drew
          go_wp2_with fail
          refine (hq2.out _).mono ?_
          rintro e w4 ⟨rfl, hb4⟩
          have B4 := Lib.hid (B3.out.drew.trans (hb4.mono B3.out.size))
          clear hb4
          go_wp2_with fail
          go_roundw
          case rel => exact ⟨k + 1, by omega, by omega, by go_num, B4.out, hst⟩
          case measure => simp [intOf]; omega
        · have hst : Hid (refLt a b = false) := hst
          go_wp2_with fail
          go_still_tail 8, (by kernel_rfl)
          change wpList _ _ _ _ _ wr.drew
          go_wp2_with fail
          refine (hq1.out _).mono ?_
          rintro e w3 ⟨rfl, hb3⟩
          have B3 := Lib.hid (HB.out.drew.trans (hb3.mono HB.out.size))
          clear hb3
          obtain ⟨⟨v1, v2, v3⟩, ⟨u1, u2, u3⟩⟩ := hcells.out w3 B3.out
          go_wp2_with fail
          go_still_tail 8, (by kernel_rfl)
          change wpList _ _ _ _ _ w3.drew
          go_wp2_with fail
          refine (hq2.out _).mono ?_
          rintro e w4 ⟨rfl, hb4⟩
          have B4 := Lib.hid (B3.out.drew.trans (hb4.mono B3.out.size))
          clear hb4
          go_wp2_with fail
          go_ret
          exact ⟨by rw [hst.out]; rfl, B4.out⟩
      · have hst : Hid (refLt a b = true) := hst
        go_wp2_with fail
        go_still_tail 8, (by kernel_rfl)
        change wpList _ _ _ _ _ wr.drew
        go_wp2_with fail
        refine (hq1.out _).mono ?_
        rintro e w3 ⟨rfl, hb3⟩
        have B3 := Lib.hid (HB.out.drew.trans (hb3.mono HB.out.size))
        clear hb3
        go_wp2_with fail
        go_ret
        exact ⟨by rw [hst.out]; rfl, B3.out⟩
    · have hf : Hid (refLt a b = decide (n < m)) := Lib.hid (hz.out.trans (hend.out k (by omega) hk hkm))
      clear hz
      by_cases h1 : k < n
      · have h2 : ¬ k < m := by omega
        go_wp2_with fail
        go_ret
        exact ⟨by rw [hf.out]; rfl, HB.out⟩
      · go_wp2_with fail
        go_ret
        exact ⟨by rw [hf.out]; rfl, HB.out⟩
end Go.Proofs.Ytabhkfpglhfiiaa
