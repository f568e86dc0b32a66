/-
  Package confluenceref5's Same, Fits, Put: the same values as row's.
-/
import Derived.Test.YtabhkfpglhfiiaaRef5
import Derived.Test.YtabhkfpglhfiiaaRowLaws
import Derived.Test.YtabhkfpglhfiiaaFits
import Derived.Test.YtabhkfpglhfiiaaRowPut
namespace Go.Proofs.Ytabhkfpglhfiiaa
open Go.RowKit
theorem refSame_eq (a b : List V) : rowSame a b = ((((rowOk a && rowOk b) && !rowLess a b) && !rowLess b a) && (a.length == b.length)) := by
  unfold rowSame rowLess
  cases ha : rowOk a
  · simp
  cases hb : rowOk b
  · simp
  rcases cmpR_tri a b (rowOk_all ha) (rowOk_all hb) with ⟨h1, h2, _⟩ | ⟨h1, h2, _⟩ | ⟨h1, h2, h3⟩
  · rw [h1, h2]; simp
  · rw [h1, h2]; simp
  · rw [h1, h2, h3]; simp
set_option maxHeartbeats 1000000 in
theorem ref5_same (A D : Option Addr) (c d : Nat) (a b : List V) (ha : a.length ≤ 9223372036854775807) (hb : b.length ≤ 9223372036854775807) (w : World) (hA : VRow w w.heap.size A a) (hD : VRow w w.heap.size D b) :
    Calls Try.prog 46 #[.slice A a.length c, .slice D b.length d] w fun e w' => e = .returned (.bool (rowSame a b)) ∧ Below w.heap.size w w' := by
  have h1 := Lib.hid (ref5_right A c a ha w hA)
  have h2 : Hid (∀ w1, Below w.heap.size w w1 → Calls Try.prog 44 #[.slice D b.length d] w1 fun e w' => e = .returned (.bool (rowOk b)) ∧ Below w1.heap.size w1 w') :=
    Lib.hid fun w1 hb1 => ref5_right D d b hb w1 ((hD.below hb1).more hb1.size)
  have h3 : Hid (∀ w1, Below w.heap.size w w1 → Calls Try.prog 45 #[.slice A a.length c, .slice D b.length d] w1 fun e w' => e = .returned (.bool (rowLess a b)) ∧ Below w1.heap.size w1 w') :=
    Lib.hid fun w1 hb1 => ref5_less_in A D c d a b ha hb w1 ((hA.below hb1).more hb1.size) ((hD.below hb1).more hb1.size)
  have h4 : Hid (∀ w1, Below w.heap.size w w1 → Calls Try.prog 45 #[.slice D b.length d, .slice A a.length c] w1 fun e w' => e = .returned (.bool (rowLess b a)) ∧ Below w1.heap.size w1 w') :=
    Lib.hid fun w1 hb1 => ref5_less_in D A d c b a hb ha w1 ((hD.below hb1).more hb1.size) ((hA.below hb1).more hb1.size)
  rw [refSame_eq]
  clear hA hD
  generalize rowOk a = p at *
  generalize rowOk b = q at *
  generalize rowLess a b = la at *
  generalize rowLess b a = lb at *
  generalize a.length = n at *
  generalize b.length = m at *
  cases p
  · simp only [Bool.false_and]
    go_enter Try.func46, Try.ntmps46
    go_wp2_with fail
    refine h1.out.mono ?_
    rintro e w1 ⟨rfl, b1⟩
    have B1 := Lib.hid b1
    clear b1
    go_wp2_with fail
    go_ret
    exact ⟨rfl, B1.out⟩
  cases q
  · simp only [Bool.false_and, Bool.and_false]
    go_enter Try.func46, Try.ntmps46
    go_wp2_with fail
    refine h1.out.mono ?_
    rintro e w1 ⟨rfl, b1⟩
    have B1 := Lib.hid b1
    clear b1
    go_wp2_with fail
    refine (h2.out _ B1.out).mono ?_
    rintro e w2 ⟨rfl, b2⟩
    have B2 := Lib.hid (B1.out.trans (b2.mono B1.out.size))
    clear b2
    go_wp2_with fail
    go_ret
    exact ⟨rfl, B2.out⟩
  simp only [Bool.true_and]
  cases la
  · simp only [Bool.not_false, Bool.true_and]
    cases lb
    · simp only [Bool.not_false, Bool.true_and]
      have hc : Hid ((n == m) = ((n : Int) == (m : Int))) := Lib.hid (by rw [Bool.eq_iff_iff, beq_iff_eq, beq_iff_eq]; omega)
      go_enter Try.func46, Try.ntmps46
      go_wp2_with fail
      refine h1.out.mono ?_
      rintro e w1 ⟨rfl, b1⟩
      have B1 := Lib.hid b1
      clear b1
      go_wp2_with fail
      refine (h2.out _ B1.out).mono ?_
      rintro e w2 ⟨rfl, b2⟩
      have B2 := Lib.hid (B1.out.trans (b2.mono B1.out.size))
      clear b2
      go_wp2_with fail
      refine (h3.out _ B2.out).mono ?_
      rintro e w3 ⟨rfl, b3⟩
      have B3 := Lib.hid (B2.out.trans (b3.mono B2.out.size))
      clear b3
      go_wp2_with fail
      refine (h4.out _ B3.out).mono ?_
      rintro e w4 ⟨rfl, b4⟩
      have B4 := Lib.hid (B3.out.trans (b4.mono B3.out.size))
      clear b4
      go_wp2_with fail
      go_ret
      exact ⟨by first | rfl | (rw [hc.out]; done) | (rw [hc.out]; rfl), B4.out⟩
    · simp only [Bool.not_true, Bool.false_and]
      go_enter Try.func46, Try.ntmps46
      go_wp2_with fail
      refine h1.out.mono ?_
      rintro e w1 ⟨rfl, b1⟩
      have B1 := Lib.hid b1
      clear b1
      go_wp2_with fail
      refine (h2.out _ B1.out).mono ?_
      rintro e w2 ⟨rfl, b2⟩
      have B2 := Lib.hid (B1.out.trans (b2.mono B1.out.size))
      clear b2
      go_wp2_with fail
      refine (h3.out _ B2.out).mono ?_
      rintro e w3 ⟨rfl, b3⟩
      have B3 := Lib.hid (B2.out.trans (b3.mono B2.out.size))
      clear b3
      go_wp2_with fail
      refine (h4.out _ B3.out).mono ?_
      rintro e w4 ⟨rfl, b4⟩
      have B4 := Lib.hid (B3.out.trans (b4.mono B3.out.size))
      clear b4
      go_wp2_with fail
      go_ret
      exact ⟨rfl, B4.out⟩
  · simp only [Bool.not_true, Bool.false_and]
    go_enter Try.func46, Try.ntmps46
    go_wp2_with fail
    refine h1.out.mono ?_
    rintro e w1 ⟨rfl, b1⟩
    have B1 := Lib.hid b1
    clear b1
    go_wp2_with fail
    refine (h2.out _ B1.out).mono ?_
    rintro e w2 ⟨rfl, b2⟩
    have B2 := Lib.hid (B1.out.trans (b2.mono B1.out.size))
    clear b2
    go_wp2_with fail
    refine (h3.out _ B2.out).mono ?_
    rintro e w3 ⟨rfl, b3⟩
    have B3 := Lib.hid (B2.out.trans (b3.mono B2.out.size))
    clear b3
    go_wp2_with fail
    go_ret
    exact ⟨rfl, B3.out⟩

set_option maxRecDepth 100000 in
set_option maxHeartbeats 1000000 in
theorem ref5_put (A D : Option Addr) (c d : Nat) (l : List UInt8) (r : List V) (hlen : (l ++ rowB r).length ≤ 137438953472) (hsz : ∀ v ∈ r, v.s.size ≤ 137438953472) (hr : r.length ≤ 9223372036854775807) (w : World) (h : BR w A l) (hD : VRow w w.heap.size D r) :
    Calls Try.prog 40 #[.slice A l.length c, .slice D r.length d] w fun e w' => ∃ v, e = .returned v ∧ OwnB w.heap.size w' v (l ++ rowB r) ∧ Below w.heap.size w w' := by
  have h0 : l.length ≤ 137438953472 := by rw [List.length_append] at hlen; omega
  have HD := Lib.hid hD.get_
  have Hsz := Lib.hid hsz
  have Hlen := Lib.hid hlen
  have hp := Lib.hid (ref1_Byte A c l r.length (by omega) w h)
  obtain ⟨n, en⟩ : ∃ n, n = r.length := ⟨_, rfl⟩
  have Hn := Lib.hid en
  rw [← en] at hr hp ⊢
  clear h hD hsz hlen en
  go_enter Try.func40, Try.ntmps40
  go_wp2_with fail
  refine hp.out.mono ?_
  rintro e w1 ⟨v1, rfl, hown, hb⟩
  have HO := Lib.hid hown
  have HB := Lib.hid hb
  clear hown hb hp
  go_wp2_with fail
  go_loopw [0, 5] (fun v i wr => ∃ (k : Nat) (cs : List UInt8), k ≤ n ∧ i = .int .i64 k ∧ OwnB w.heap.size wr v cs ∧ Below w.heap.size w wr ∧ Hid (cs ++ (r.drop k).flatMap vB = l ++ rowB r)) (fun _ i _ => n - (intOf i).toNat)
  case atStart => exact ⟨0, _, Nat.zero_le _, rfl, HO.out, HB.out, by rw [List.drop_zero, List.append_assoc, rowB, Hn.out]; exact rfl⟩
  case round =>
    obtain ⟨k, cs, hk, rfl, hown, hb, hz⟩ := hrel
    clear HO HB
    have HO := Lib.hid hown
    have HB := Lib.hid hb
    by_cases hlt : k < n
    · obtain ⟨x, hx⟩ : ∃ x, r[k]? = some x := ⟨_, List.getElem?_eq_getElem (by rw [← Hn.out]; exact hlt)⟩
      obtain ⟨b, o, rfl, hbl, v1, v2, v3⟩ := HD.out wr hb k x hx
      have hcs : cs.length ≤ 137438953472 := by
        have := congrArg List.length hz.out
        rw [List.length_append] at this
        have := Hlen.out
        omega
      have hxs : x.s.size ≤ 137438953472 := Hsz.out x (List.mem_of_getElem? hx)
      have hz2 : Hid (cs ++ vB x ++ (r.drop (k + 1)).flatMap vB = l ++ rowB r) := Lib.hid (by rw [List.append_assoc, ← fm_len r k x hx]; exact hz.out)
      obtain ⟨A1, c1, rfl, _, hr1, _⟩ := OwnB.slice hown
      have hq := Lib.hid (ref4_Put A1 c1 cs x hcs hxs wr hr1)
      clear hz hx hown hb hr1
      obtain ⟨xk, xn, xs⟩ := x
      have hq : Hid (Calls Try.prog 68 #[.slice A1 cs.length c1, .agg #[.int .i64 xk, .int .i64 xn, .string xs]] wr _) := hq
      have hi0 : (0 : Int) ≤ (k : Int) := by omega
      have hi1 : (k : Int) < (n : Int) := by omega
      have v1 : wr.cell? ⟨b, o + k * 3, none⟩ = some (.int .i64 xk) := v1
      have v2 : wr.cell? ⟨b, o + k * 3 + 1, none⟩ = some (.int .i64 xn) := v2
      have v3 : wr.cell? ⟨b, o + k * 3 + 2, none⟩ = some (.string xs) := v3
      go_wp2_with fail
      refine hq.out.mono ?_
      rintro e w2 ⟨v2, rfl, hown2, hb2⟩
      have HO2 := Lib.hid (own_up hown2 fun q hq => Nat.le_trans HB.out.size (hown2.lt q hq).1)
      have HB2 := Lib.hid (HB.out.trans (hb2.mono HB.out.size))
      clear hown2 hb2 hq
      go_wp2_with fail
      go_roundw
      case rel => exact ⟨k + 1, _, by omega, by go_num, HO2.out, HB2.out, hz2⟩
      case measure => simp [intOf]; omega
    · have hz2 : Hid (cs = l ++ rowB r) := Lib.hid (by have := hz.out; rwa [List.drop_of_length_le (by rw [← Hn.out]; omega), List.flatMap_nil, List.append_nil] at this)
      clear hz hown hb
      obtain ⟨A2, n2, c2, rfl⟩ := OwnB.form HO.out
      go_wp2_with fail
      go_ret
      exact ⟨_, rfl, by rw [← hz2.out]; exact HO.out, HB.out⟩
end Go.Proofs.Ytabhkfpglhfiiaa
