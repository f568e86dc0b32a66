/-
  The walk of RowOrder.
-/
import Derived.Test.YtabhkfpglhfiiaaTrip
import Derived.Test.YtabhkfpglhfiiaaRowPut
import Derived.Test.YtabhkfpglhfiiaaKnown5
import Derived.Test.YtabhkfpglhfiiaaArgs
import Derived.Deep.DeepCutAuto
namespace Go.Proofs.Ytabhkfpglhfiiaa
open Go.RowKit
/-- a new row, as an argument -/
theorem own_row2 {w : World} {B : Nat} {v : Value} {l : List V} (h : w.ownsRow B 49 3 v l.length (flat l)) : ∃ A c, v = .slice A l.length c ∧ VRow w w.heap.size A l := by
  rcases Nat.eq_zero_or_pos l.length with h0 | h0
  · obtain rfl : l = [] := List.eq_nil_of_length_eq_zero h0
    rcases h.2 with ⟨rfl, _⟩ | ⟨g, cap, cur, rfl, _⟩
    · exact ⟨_, _, rfl, .inl rfl⟩
    · exact ⟨_, _, rfl, .inl rfl⟩
  · obtain ⟨g, cap, rfl, _, _, hlt, hv, _⟩ := own_full h rfl h0
    exact ⟨_, _, rfl, .inr ⟨g, 0, rfl, hlt, hv⟩⟩
theorem VRow.kept {w w' : World} {A : Option Addr} {l : List V} (h : VRow w w.heap.size A l) (hw : Below w.heap.size w w') : VRow w' w'.heap.size A l := by
  rcases h with h | ⟨b, o, rfl, hb, hv⟩
  · exact .inl h
  · exact .inr ⟨b, o, rfl, by have := hw.size; omega, hv.below hw hb⟩
theorem VRow.src {w w' : World} {A : Option Addr} {l : List V} (h : VRow w w.heap.size A l) (hl : 0 < l.length) (hw : Below w.heap.size w w') : Src w' (fun k => w.heap.size ≤ k) A l := by
  rcases h with h | ⟨b, o, rfl, hb, hv⟩
  · subst h; simp at hl
  · exact .inr ⟨b, o, rfl, by have := hw.size; omega, by omega, hv.below hw hb⟩
theorem rowB_small {a : List V} (ha : rowOk a = true) (hs : ∀ v ∈ a, v.s.size ≤ 40) : (rowB a).length ≤ 1000 := by
  have h6 : a.length ≤ 6 := by
    unfold rowOk at ha
    simp only [Bool.and_eq_true, decide_eq_true_eq] at ha
    exact ha.1.2
  have : ∀ l : List V, (∀ v ∈ l, v.s.size ≤ 40) → (l.flatMap vB).length ≤ 50 * l.length := by
    intro l
    induction l with
    | nil => simp
    | cons v l ih =>
      intro h
      rw [List.flatMap_cons, List.length_append, List.length_cons]
      have h1 := ih fun x hx => h x (List.mem_cons_of_mem _ hx)
      have h2 := vB_len v
      have h3 := h v List.mem_cons_self
      omega
  have h1 := this a hs
  rw [rowB, List.length_append, leI_len]
  omega
theorem row_texts {a : List V} (ha : rowOk a = true) : ∀ v ∈ a, v.s.size ≤ 40 := by
  intro v hv
  have h := rowOk_all ha v hv
  unfold V.okB at h
  simp only [Bool.or_eq_true, Bool.and_eq_true, beq_iff_eq, decide_eq_true_eq, List.isEmpty_iff] at h
  rcases h with ⟨_, h⟩ | ⟨_, _, h⟩
  · rw [bytes_nil h]; decide
  · omega

set_option maxRecDepth 100000 in
set_option maxHeartbeats 8000000 in
theorem rowOrder_main (bk o ca cb cc : Nat) (D E : Option Addr) (a b c : List V) (la lb eq lbc lac : Bool) (ha : a.length ≤ 9223372036854775807) (hca : a.length ≤ ca) (hn : 0 < a.length)
    (ra : rowOk a = true) (hw : ∀ v ∈ a, -9223372036854775808 ≤ v.n ∧ v.n ≤ 9223372036854775807) (w : World) (hA : VRow w w.heap.size (some ⟨bk, o, none⟩) a)
    (hra : Hid (∀ w1, Below w.heap.size w w1 → Calls Try.prog 25 #[.slice (some ⟨bk, o, none⟩) a.length ca] w1 fun e w' => e = .returned (.bool true) ∧ Below w1.heap.size w1 w'))
    (hrb : Hid (∀ w1, Below w.heap.size w w1 → Calls Try.prog 25 #[.slice D b.length cb] w1 fun e w' => e = .returned (.bool true) ∧ Below w1.heap.size w1 w'))
    (hrc : Hid (∀ w1, Below w.heap.size w w1 → Calls Try.prog 25 #[.slice E c.length cc] w1 fun e w' => e = .returned (.bool true) ∧ Below w1.heap.size w1 w'))
    (hab : Hid (∀ w1, Below w.heap.size w w1 → Calls Try.prog 38 #[.slice (some ⟨bk, o, none⟩) a.length ca, .slice D b.length cb] w1 fun e w' => e = .returned (.bool la) ∧ Below w1.heap.size w1 w'))
    (hba : Hid (∀ w1, Below w.heap.size w w1 → Calls Try.prog 38 #[.slice D b.length cb, .slice (some ⟨bk, o, none⟩) a.length ca] w1 fun e w' => e = .returned (.bool lb) ∧ Below w1.heap.size w1 w'))
    (hbc : Hid (∀ w1, Below w.heap.size w w1 → Calls Try.prog 38 #[.slice D b.length cb, .slice E c.length cc] w1 fun e w' => e = .returned (.bool lbc) ∧ Below w1.heap.size w1 w'))
    (hac : Hid (∀ w1, Below w.heap.size w w1 → Calls Try.prog 38 #[.slice (some ⟨bk, o, none⟩) a.length ca, .slice E c.length cc] w1 fun e w' => e = .returned (.bool lac) ∧ Below w1.heap.size w1 w'))
    (hsm : Hid (∀ w1, Below w.heap.size w w1 → Calls Try.prog 34 #[.slice (some ⟨bk, o, none⟩) a.length ca, .slice D b.length cb] w1 fun e w' => e = .returned (.bool eq) ∧ Below w1.heap.size w1 w'))
    (heq : Hid (∀ w1, Below w.heap.size w w1 → Calls Try.prog 39 #[.slice (some ⟨bk, o, none⟩) a.length ca, .slice D b.length cb] w1 fun e w' => e = .returned (.bool eq) ∧ Below w1.heap.size w1 w'))
    (hpre : Hid (∀ m : Nat, m + 1 = a.length → 0 < m → ∀ w1, Below w.heap.size w w1 → Calls Try.prog 38 #[.slice (some ⟨bk, o, none⟩) m ca, .slice (some ⟨bk, o, none⟩) a.length ca] w1 fun e w' => e = .returned (.bool true) ∧ Below w1.heap.size w1 w'))
    (h1 : Hid ((la = true ∧ lb = false ∧ eq = false) ∨ (la = false ∧ lb = true ∧ eq = false) ∨ (la = false ∧ lb = false ∧ eq = true))) (h2 : Hid (la = true → lbc = true → lac = true)) :
    Calls Try.prog 8 #[.slice (some ⟨bk, o, none⟩) a.length ca, .slice D b.length cb, .slice E c.length cc] w fun e w' => e = .returned (.bool true) ∧ Below w.heap.size w w' := by
  have hlen : Hid ((rowB a).length ≤ 1000) := Lib.hid (rowB_small ra (row_texts ra))
  have htx : Hid (∀ v ∈ a, v.s.size ≤ 274877906944) := Lib.hid fun v hv => by have := row_texts ra v hv; omega
  have htrip := Lib.hid (row_trip a ra hw)
  have hsrc : Hid (∀ w1, Below w.heap.size w w1 → Src w1 (fun k => w.heap.size ≤ k) (some ⟨bk, o, none⟩) a) := Lib.hid fun w1 h => hA.src hn h
  have HA := Lib.hid hA
  have Ha := Lib.hid ha
  clear ra hw hA
  go_enter Try.func8, Try.ntmps8
  go_wp2_with fail
  refine (hra.out w (Below.refl _ _)).mono ?_
  rintro e w1 ⟨rfl, b1⟩
  have B1 := Lib.hid b1
  clear b1
  go_wp2_with fail
  refine (hrb.out w1 B1.out).mono ?_
  rintro e w2 ⟨rfl, b2⟩
  have B2 := Lib.hid (B1.out.trans (b2.mono B1.out.size))
  clear b2
  go_wp2_with fail
  refine (hrc.out w2 B2.out).mono ?_
  rintro e w3 ⟨rfl, b3⟩
  have B3 := Lib.hid (B2.out.trans (b3.mono B2.out.size))
  clear b3 B1 B2
  go_wp2_with fail
  refine (newWriter (fun k => w.heap.size ≤ k) w3 B3.out.size).mono ?_
  rintro e w4 ⟨rfl, hw4, b4⟩
  have W4 := Lib.hid hw4
  have B4 := Lib.hid (B3.out.trans (b4.mono B3.out.size))
  clear hw4 b4
  generalize w3.heap.size = g at *
  clear B3
  go_wp2_with fail
  refine (row_put (fun k => w.heap.size ≤ k) g [] (some ⟨bk, o, none⟩) ca a Ha.out (by rw [List.nil_append]; exact Nat.le_trans hlen.out (by decide)) htx.out w4 W4.out (fun k hk => by have := B4.out.size; omega) (hsrc.out w4 B4.out)).mono ?_
  rintro e w5 ⟨rfl, hw5, o5⟩
  rw [List.nil_append] at hw5
  have W5 := Lib.hid hw5
  have B5 := Lib.hid (B4.out.trans (o5.below fun k h => h))
  clear hw5 o5 W4 B4 hsrc htx
  go_wp2_with fail
  refine (wDone (fun k => w.heap.size ≤ k) g (rowB a) (by have := hlen.out; omega) w5 W5.out).mono ?_
  rintro e w6 ⟨v6, rfl, own6, b6⟩
  have O6 := Lib.hid (own_bts own6)
  have B6 := Lib.hid (B5.out.trans (b6.mono B5.out.size))
  clear own6 b6 W5 B5
  go_wp2_with fail
  refine (newReader v6 (rowB a) (by have := hlen.out; omega) w6 O6.out).mono ?_
  rintro e w7 ⟨g2, rfl, hg1, hg2, hr7, b7⟩
  have R7 := Lib.hid hr7
  have hs6 := B6.out.size
  have B7 := Lib.hid (B6.out.trans (b7.mono B6.out.size))
  have hs7 := B7.out.size
  clear hr7 b7 B6 O6 hlen
  go_wp2_with fail
  refine (row_get (fun k => k = g2 ∨ w7.heap.size ≤ k) g2 ⟨rowB a, 0, 0, 0⟩ w7 (fun k hk => .inr hk) R7.out).mono ?_
  rintro e w8 ⟨⟨v8, rfl, own8⟩, hr8, o8⟩
  rw [htrip.out.1] at own8
  obtain ⟨A8, c8, rfl, hv8⟩ := own_row2 own8
  have R8 := Lib.hid hr8
  have V8 := Lib.hid hv8
  have B8 := Lib.hid (B7.out.trans (o8.below hs7 (by omega)))
  clear own8 hr8 o8 hv8 R7 B7
  go_wp2_with fail
  refine (rEnd _ g2 _ w8 R8.out).mono ?_
  rw [htrip.out.2]
  rintro e w9 ⟨rfl, b9⟩
  have hx : Hid (∀ w1, Below w8.heap.size w8 w1 → Calls Try.prog 39 #[.slice A8 a.length c8, .slice (some ⟨bk, o, none⟩) a.length ca] w1 fun e w' => e = .returned (.bool true) ∧ Below w1.heap.size w1 w') := Lib.hid fun w1 hb => by
    have := keepRow_any A8 (some ⟨bk, o, none⟩) c8 ca a a Ha.out Ha.out w1 (V8.out.kept hb) (HA.out.kept (B8.out.trans (hb.mono B8.out.size)))
    rwa [(eqR_iff a a).2 rfl] at this
  have B9 := Lib.hid (B8.out.trans (b9.mono B8.out.size))
  have N9 := Lib.hid b9
  have hs8 := B8.out.size
  clear b9 R8 V8 B8 HA
  generalize (RS.mk (rowB a) 0 0 0).rowRaw.2.endA = ea at *
  clear htrip
  go_wp2_with fail
  refine (hab.out w9 B9.out).mono ?_
  rintro e w10 ⟨rfl, b10⟩
  have B10 := Lib.hid (B9.out.trans (b10.mono B9.out.size))
  have N10 := Lib.hid (N9.out.trans (b10.mono N9.out.size))
  clear b10 B9 N9
  go_wp2_with fail
  refine (hba.out w10 B10.out).mono ?_
  rintro e w11 ⟨rfl, b11⟩
  have B11 := Lib.hid (B10.out.trans (b11.mono B10.out.size))
  have N11 := Lib.hid (N10.out.trans (b11.mono N10.out.size))
  clear b11 B10 N10
  rcases h1.out with ⟨rfl, rfl, rfl⟩ | ⟨rfl, rfl, rfl⟩ | ⟨rfl, rfl, rfl⟩
  · by_cases hl : lbc = true
    · subst hl
      obtain rfl : lac = true := h2.out rfl rfl
      clear h1 h2
      by_cases h1n : 1 < a.length
      · obtain ⟨m, hm⟩ : ∃ m : Nat, m + 1 = a.length := ⟨a.length - 1, by omega⟩
        have hp := Lib.hid (hpre.out m hm (by omega) w11 B11.out)
        have hd : (1 : Int) < (a.length : Int) := by omega
        have hs : (a.length : Int) - 1 = (m : Int) := by omega
        have hm0 : (0 : Int) ≤ (m : Int) := by omega
        have hm1 : (m : Int) ≤ (ca : Int) := by omega
        clear hm hpre
        go_wp2_with fail
        refine hp.out.mono ?_
        rintro e w12 ⟨rfl, b12⟩
        have B12 := Lib.hid (B11.out.trans (b12.mono B11.out.size))
        have N12 := Lib.hid (N11.out.trans (b12.mono N11.out.size))
        clear b12 B11 N11 hp hs hm0 hm1
        go_wp2_with fail
        refine (heq.out w12 B12.out).mono ?_
        rintro e w13 ⟨rfl, b13⟩
        have B13 := Lib.hid (B12.out.trans (b13.mono B12.out.size))
        have N13 := Lib.hid (N12.out.trans (b13.mono N12.out.size))
        clear b13 B12 N12
        go_wp2_with fail
        refine (hsm.out w13 B13.out).mono ?_
        rintro e w14 ⟨rfl, b14⟩
        have B14 := Lib.hid (B13.out.trans (b14.mono B13.out.size))
        have N14 := Lib.hid (N13.out.trans (b14.mono N13.out.size))
        clear b14 B13 N13
        go_wp2_with fail
        refine (heq.out w14 B14.out).mono ?_
        rintro e w15 ⟨rfl, b15⟩
        have B15 := Lib.hid (B14.out.trans (b15.mono B14.out.size))
        have N15 := Lib.hid (N14.out.trans (b15.mono N14.out.size))
        clear b15 B14 N14
        go_wp2_with fail
        refine (hab.out w15 B15.out).mono ?_
        rintro e w16 ⟨rfl, b16⟩
        have B16 := Lib.hid (B15.out.trans (b16.mono B15.out.size))
        have N16 := Lib.hid (N15.out.trans (b16.mono N15.out.size))
        clear b16 B15 N15
        go_wp2_with fail
        refine (hbc.out w16 B16.out).mono ?_
        rintro e w17 ⟨rfl, b17⟩
        have B17 := Lib.hid (B16.out.trans (b17.mono B16.out.size))
        have N17 := Lib.hid (N16.out.trans (b17.mono N16.out.size))
        clear b17 B16 N16
        go_wp2_with fail
        refine (hac.out w17 B17.out).mono ?_
        rintro e w18 ⟨rfl, b18⟩
        have B18 := Lib.hid (B17.out.trans (b18.mono B17.out.size))
        have N18 := Lib.hid (N17.out.trans (b18.mono N17.out.size))
        clear b18 B17 N17
        go_wp2_with fail
        refine (hx.out w18 N18.out).mono ?_
        rintro e w19 ⟨rfl, b19⟩
        have B19 := Lib.hid (B18.out.trans (b19.mono B18.out.size))
        have N19 := Lib.hid (N18.out.trans (b19.mono N18.out.size))
        clear b19 B18 N18
        go_wp2_with fail
        refine (known5 w19).mono ?_
        rintro e w20 ⟨rfl, b20⟩
        have B20 := Lib.hid (B19.out.trans (b20.mono B19.out.size))
        have N20 := Lib.hid (N19.out.trans (b20.mono N19.out.size))
        clear b20 B19 N19
        go_wp2_with fail
        go_ret
        exact ⟨rfl, B20.out⟩
      · have hd : ¬ (1 : Int) < (a.length : Int) := by omega
        clear hpre
        go_wp2_with fail
        refine (heq.out w11 B11.out).mono ?_
        rintro e w12 ⟨rfl, b12⟩
        have B12 := Lib.hid (B11.out.trans (b12.mono B11.out.size))
        have N12 := Lib.hid (N11.out.trans (b12.mono N11.out.size))
        clear b12 B11 N11
        go_wp2_with fail
        refine (hsm.out w12 B12.out).mono ?_
        rintro e w13 ⟨rfl, b13⟩
        have B13 := Lib.hid (B12.out.trans (b13.mono B12.out.size))
        have N13 := Lib.hid (N12.out.trans (b13.mono N12.out.size))
        clear b13 B12 N12
        go_wp2_with fail
        refine (heq.out w13 B13.out).mono ?_
        rintro e w14 ⟨rfl, b14⟩
        have B14 := Lib.hid (B13.out.trans (b14.mono B13.out.size))
        have N14 := Lib.hid (N13.out.trans (b14.mono N13.out.size))
        clear b14 B13 N13
        go_wp2_with fail
        refine (hab.out w14 B14.out).mono ?_
        rintro e w15 ⟨rfl, b15⟩
        have B15 := Lib.hid (B14.out.trans (b15.mono B14.out.size))
        have N15 := Lib.hid (N14.out.trans (b15.mono N14.out.size))
        clear b15 B14 N14
        go_wp2_with fail
        refine (hbc.out w15 B15.out).mono ?_
        rintro e w16 ⟨rfl, b16⟩
        have B16 := Lib.hid (B15.out.trans (b16.mono B15.out.size))
        have N16 := Lib.hid (N15.out.trans (b16.mono N15.out.size))
        clear b16 B15 N15
        go_wp2_with fail
        refine (hac.out w16 B16.out).mono ?_
        rintro e w17 ⟨rfl, b17⟩
        have B17 := Lib.hid (B16.out.trans (b17.mono B16.out.size))
        have N17 := Lib.hid (N16.out.trans (b17.mono N16.out.size))
        clear b17 B16 N16
        go_wp2_with fail
        refine (hx.out w17 N17.out).mono ?_
        rintro e w18 ⟨rfl, b18⟩
        have B18 := Lib.hid (B17.out.trans (b18.mono B17.out.size))
        have N18 := Lib.hid (N17.out.trans (b18.mono N17.out.size))
        clear b18 B17 N17
        go_wp2_with fail
        refine (known5 w18).mono ?_
        rintro e w19 ⟨rfl, b19⟩
        have B19 := Lib.hid (B18.out.trans (b19.mono B18.out.size))
        have N19 := Lib.hid (N18.out.trans (b19.mono N18.out.size))
        clear b19 B18 N18
        go_wp2_with fail
        go_ret
        exact ⟨rfl, B19.out⟩
    · obtain rfl : lbc = false := by simpa using hl
      clear h1 h2 hl hac
      by_cases h1n : 1 < a.length
      · obtain ⟨m, hm⟩ : ∃ m : Nat, m + 1 = a.length := ⟨a.length - 1, by omega⟩
        have hp := Lib.hid (hpre.out m hm (by omega) w11 B11.out)
        have hd : (1 : Int) < (a.length : Int) := by omega
        have hs : (a.length : Int) - 1 = (m : Int) := by omega
        have hm0 : (0 : Int) ≤ (m : Int) := by omega
        have hm1 : (m : Int) ≤ (ca : Int) := by omega
        clear hm hpre
        go_wp2_with fail
        refine hp.out.mono ?_
        rintro e w12 ⟨rfl, b12⟩
        have B12 := Lib.hid (B11.out.trans (b12.mono B11.out.size))
        have N12 := Lib.hid (N11.out.trans (b12.mono N11.out.size))
        clear b12 B11 N11 hp hs hm0 hm1
        go_wp2_with fail
        refine (heq.out w12 B12.out).mono ?_
        rintro e w13 ⟨rfl, b13⟩
        have B13 := Lib.hid (B12.out.trans (b13.mono B12.out.size))
        have N13 := Lib.hid (N12.out.trans (b13.mono N12.out.size))
        clear b13 B12 N12
        go_wp2_with fail
        refine (hsm.out w13 B13.out).mono ?_
        rintro e w14 ⟨rfl, b14⟩
        have B14 := Lib.hid (B13.out.trans (b14.mono B13.out.size))
        have N14 := Lib.hid (N13.out.trans (b14.mono N13.out.size))
        clear b14 B13 N13
        go_wp2_with fail
        refine (heq.out w14 B14.out).mono ?_
        rintro e w15 ⟨rfl, b15⟩
        have B15 := Lib.hid (B14.out.trans (b15.mono B14.out.size))
        have N15 := Lib.hid (N14.out.trans (b15.mono N14.out.size))
        clear b15 B14 N14
        go_wp2_with fail
        refine (hab.out w15 B15.out).mono ?_
        rintro e w16 ⟨rfl, b16⟩
        have B16 := Lib.hid (B15.out.trans (b16.mono B15.out.size))
        have N16 := Lib.hid (N15.out.trans (b16.mono N15.out.size))
        clear b16 B15 N15
        go_wp2_with fail
        refine (hbc.out w16 B16.out).mono ?_
        rintro e w17 ⟨rfl, b17⟩
        have B17 := Lib.hid (B16.out.trans (b17.mono B16.out.size))
        have N17 := Lib.hid (N16.out.trans (b17.mono N16.out.size))
        clear b17 B16 N16
        go_wp2_with fail
        refine (hx.out w17 N17.out).mono ?_
        rintro e w18 ⟨rfl, b18⟩
        have B18 := Lib.hid (B17.out.trans (b18.mono B17.out.size))
        have N18 := Lib.hid (N17.out.trans (b18.mono N17.out.size))
        clear b18 B17 N17
        go_wp2_with fail
        refine (known5 w18).mono ?_
        rintro e w19 ⟨rfl, b19⟩
        have B19 := Lib.hid (B18.out.trans (b19.mono B18.out.size))
        have N19 := Lib.hid (N18.out.trans (b19.mono N18.out.size))
        clear b19 B18 N18
        go_wp2_with fail
        go_ret
        exact ⟨rfl, B19.out⟩
      · have hd : ¬ (1 : Int) < (a.length : Int) := by omega
        clear hpre
        go_wp2_with fail
        refine (heq.out w11 B11.out).mono ?_
        rintro e w12 ⟨rfl, b12⟩
        have B12 := Lib.hid (B11.out.trans (b12.mono B11.out.size))
        have N12 := Lib.hid (N11.out.trans (b12.mono N11.out.size))
        clear b12 B11 N11
        go_wp2_with fail
        refine (hsm.out w12 B12.out).mono ?_
        rintro e w13 ⟨rfl, b13⟩
        have B13 := Lib.hid (B12.out.trans (b13.mono B12.out.size))
        have N13 := Lib.hid (N12.out.trans (b13.mono N12.out.size))
        clear b13 B12 N12
        go_wp2_with fail
        refine (heq.out w13 B13.out).mono ?_
        rintro e w14 ⟨rfl, b14⟩
        have B14 := Lib.hid (B13.out.trans (b14.mono B13.out.size))
        have N14 := Lib.hid (N13.out.trans (b14.mono N13.out.size))
        clear b14 B13 N13
        go_wp2_with fail
        refine (hab.out w14 B14.out).mono ?_
        rintro e w15 ⟨rfl, b15⟩
        have B15 := Lib.hid (B14.out.trans (b15.mono B14.out.size))
        have N15 := Lib.hid (N14.out.trans (b15.mono N14.out.size))
        clear b15 B14 N14
        go_wp2_with fail
        refine (hbc.out w15 B15.out).mono ?_
        rintro e w16 ⟨rfl, b16⟩
        have B16 := Lib.hid (B15.out.trans (b16.mono B15.out.size))
        have N16 := Lib.hid (N15.out.trans (b16.mono N15.out.size))
        clear b16 B15 N15
        go_wp2_with fail
        refine (hx.out w16 N16.out).mono ?_
        rintro e w17 ⟨rfl, b17⟩
        have B17 := Lib.hid (B16.out.trans (b17.mono B16.out.size))
        have N17 := Lib.hid (N16.out.trans (b17.mono N16.out.size))
        clear b17 B16 N16
        go_wp2_with fail
        refine (known5 w17).mono ?_
        rintro e w18 ⟨rfl, b18⟩
        have B18 := Lib.hid (B17.out.trans (b18.mono B17.out.size))
        have N18 := Lib.hid (N17.out.trans (b18.mono N17.out.size))
        clear b18 B17 N17
        go_wp2_with fail
        go_ret
        exact ⟨rfl, B18.out⟩
  · clear h1 h2 hac hbc
    by_cases h1n : 1 < a.length
    · obtain ⟨m, hm⟩ : ∃ m : Nat, m + 1 = a.length := ⟨a.length - 1, by omega⟩
      have hp := Lib.hid (hpre.out m hm (by omega) w11 B11.out)
      have hd : (1 : Int) < (a.length : Int) := by omega
      have hs : (a.length : Int) - 1 = (m : Int) := by omega
      have hm0 : (0 : Int) ≤ (m : Int) := by omega
      have hm1 : (m : Int) ≤ (ca : Int) := by omega
      clear hm hpre
      go_wp2_with fail
      refine hp.out.mono ?_
      rintro e w12 ⟨rfl, b12⟩
      have B12 := Lib.hid (B11.out.trans (b12.mono B11.out.size))
      have N12 := Lib.hid (N11.out.trans (b12.mono N11.out.size))
      clear b12 B11 N11 hp hs hm0 hm1
      go_wp2_with fail
      refine (heq.out w12 B12.out).mono ?_
      rintro e w13 ⟨rfl, b13⟩
      have B13 := Lib.hid (B12.out.trans (b13.mono B12.out.size))
      have N13 := Lib.hid (N12.out.trans (b13.mono N12.out.size))
      clear b13 B12 N12
      go_wp2_with fail
      refine (hsm.out w13 B13.out).mono ?_
      rintro e w14 ⟨rfl, b14⟩
      have B14 := Lib.hid (B13.out.trans (b14.mono B13.out.size))
      have N14 := Lib.hid (N13.out.trans (b14.mono N13.out.size))
      clear b14 B13 N13
      go_wp2_with fail
      refine (heq.out w14 B14.out).mono ?_
      rintro e w15 ⟨rfl, b15⟩
      have B15 := Lib.hid (B14.out.trans (b15.mono B14.out.size))
      have N15 := Lib.hid (N14.out.trans (b15.mono N14.out.size))
      clear b15 B14 N14
      go_wp2_with fail
      refine (hab.out w15 B15.out).mono ?_
      rintro e w16 ⟨rfl, b16⟩
      have B16 := Lib.hid (B15.out.trans (b16.mono B15.out.size))
      have N16 := Lib.hid (N15.out.trans (b16.mono N15.out.size))
      clear b16 B15 N15
      go_wp2_with fail
      refine (hx.out w16 N16.out).mono ?_
      rintro e w17 ⟨rfl, b17⟩
      have B17 := Lib.hid (B16.out.trans (b17.mono B16.out.size))
      have N17 := Lib.hid (N16.out.trans (b17.mono N16.out.size))
      clear b17 B16 N16
      go_wp2_with fail
      refine (known5 w17).mono ?_
      rintro e w18 ⟨rfl, b18⟩
      have B18 := Lib.hid (B17.out.trans (b18.mono B17.out.size))
      have N18 := Lib.hid (N17.out.trans (b18.mono N17.out.size))
      clear b18 B17 N17
      go_wp2_with fail
      go_ret
      exact ⟨rfl, B18.out⟩
    · have hd : ¬ (1 : Int) < (a.length : Int) := by omega
      clear hpre
      go_wp2_with fail
      refine (heq.out w11 B11.out).mono ?_
      rintro e w12 ⟨rfl, b12⟩
      have B12 := Lib.hid (B11.out.trans (b12.mono B11.out.size))
      have N12 := Lib.hid (N11.out.trans (b12.mono N11.out.size))
      clear b12 B11 N11
      go_wp2_with fail
      refine (hsm.out w12 B12.out).mono ?_
      rintro e w13 ⟨rfl, b13⟩
      have B13 := Lib.hid (B12.out.trans (b13.mono B12.out.size))
      have N13 := Lib.hid (N12.out.trans (b13.mono N12.out.size))
      clear b13 B12 N12
      go_wp2_with fail
      refine (heq.out w13 B13.out).mono ?_
      rintro e w14 ⟨rfl, b14⟩
      have B14 := Lib.hid (B13.out.trans (b14.mono B13.out.size))
      have N14 := Lib.hid (N13.out.trans (b14.mono N13.out.size))
      clear b14 B13 N13
      go_wp2_with fail
      refine (hab.out w14 B14.out).mono ?_
      rintro e w15 ⟨rfl, b15⟩
      have B15 := Lib.hid (B14.out.trans (b15.mono B14.out.size))
      have N15 := Lib.hid (N14.out.trans (b15.mono N14.out.size))
      clear b15 B14 N14
      go_wp2_with fail
      refine (hx.out w15 N15.out).mono ?_
      rintro e w16 ⟨rfl, b16⟩
      have B16 := Lib.hid (B15.out.trans (b16.mono B15.out.size))
      have N16 := Lib.hid (N15.out.trans (b16.mono N15.out.size))
      clear b16 B15 N15
      go_wp2_with fail
      refine (known5 w16).mono ?_
      rintro e w17 ⟨rfl, b17⟩
      have B17 := Lib.hid (B16.out.trans (b17.mono B16.out.size))
      have N17 := Lib.hid (N16.out.trans (b17.mono N16.out.size))
      clear b17 B16 N16
      go_wp2_with fail
      go_ret
      exact ⟨rfl, B17.out⟩
  · clear h1 h2 hac hbc
    by_cases h1n : 1 < a.length
    · obtain ⟨m, hm⟩ : ∃ m : Nat, m + 1 = a.length := ⟨a.length - 1, by omega⟩
      have hp := Lib.hid (hpre.out m hm (by omega) w11 B11.out)
      have hd : (1 : Int) < (a.length : Int) := by omega
      have hs : (a.length : Int) - 1 = (m : Int) := by omega
      have hm0 : (0 : Int) ≤ (m : Int) := by omega
      have hm1 : (m : Int) ≤ (ca : Int) := by omega
      clear hm hpre
      go_wp2_with fail
      refine hp.out.mono ?_
      rintro e w12 ⟨rfl, b12⟩
      have B12 := Lib.hid (B11.out.trans (b12.mono B11.out.size))
      have N12 := Lib.hid (N11.out.trans (b12.mono N11.out.size))
      clear b12 B11 N11 hp hs hm0 hm1
      go_wp2_with fail
      refine (heq.out w12 B12.out).mono ?_
      rintro e w13 ⟨rfl, b13⟩
      have B13 := Lib.hid (B12.out.trans (b13.mono B12.out.size))
      have N13 := Lib.hid (N12.out.trans (b13.mono N12.out.size))
      clear b13 B12 N12
      go_wp2_with fail
      refine (hsm.out w13 B13.out).mono ?_
      rintro e w14 ⟨rfl, b14⟩
      have B14 := Lib.hid (B13.out.trans (b14.mono B13.out.size))
      have N14 := Lib.hid (N13.out.trans (b14.mono N13.out.size))
      clear b14 B13 N13
      go_wp2_with fail
      refine (heq.out w14 B14.out).mono ?_
      rintro e w15 ⟨rfl, b15⟩
      have B15 := Lib.hid (B14.out.trans (b15.mono B14.out.size))
      have N15 := Lib.hid (N14.out.trans (b15.mono N14.out.size))
      clear b15 B14 N14
      go_wp2_with fail
      refine (hab.out w15 B15.out).mono ?_
      rintro e w16 ⟨rfl, b16⟩
      have B16 := Lib.hid (B15.out.trans (b16.mono B15.out.size))
      have N16 := Lib.hid (N15.out.trans (b16.mono N15.out.size))
      clear b16 B15 N15
      go_wp2_with fail
      refine (hx.out w16 N16.out).mono ?_
      rintro e w17 ⟨rfl, b17⟩
      have B17 := Lib.hid (B16.out.trans (b17.mono B16.out.size))
      have N17 := Lib.hid (N16.out.trans (b17.mono N16.out.size))
      clear b17 B16 N16
      go_wp2_with fail
      refine (known5 w17).mono ?_
      rintro e w18 ⟨rfl, b18⟩
      have B18 := Lib.hid (B17.out.trans (b18.mono B17.out.size))
      have N18 := Lib.hid (N17.out.trans (b18.mono N17.out.size))
      clear b18 B17 N17
      go_wp2_with fail
      go_ret
      exact ⟨rfl, B18.out⟩
    · have hd : ¬ (1 : Int) < (a.length : Int) := by omega
      clear hpre
      go_wp2_with fail
      refine (heq.out w11 B11.out).mono ?_
      rintro e w12 ⟨rfl, b12⟩
      have B12 := Lib.hid (B11.out.trans (b12.mono B11.out.size))
      have N12 := Lib.hid (N11.out.trans (b12.mono N11.out.size))
      clear b12 B11 N11
      go_wp2_with fail
      refine (hsm.out w12 B12.out).mono ?_
      rintro e w13 ⟨rfl, b13⟩
      have B13 := Lib.hid (B12.out.trans (b13.mono B12.out.size))
      have N13 := Lib.hid (N12.out.trans (b13.mono N12.out.size))
      clear b13 B12 N12
      go_wp2_with fail
      refine (heq.out w13 B13.out).mono ?_
      rintro e w14 ⟨rfl, b14⟩
      have B14 := Lib.hid (B13.out.trans (b14.mono B13.out.size))
      have N14 := Lib.hid (N13.out.trans (b14.mono N13.out.size))
      clear b14 B13 N13
      go_wp2_with fail
      refine (hab.out w14 B14.out).mono ?_
      rintro e w15 ⟨rfl, b15⟩
      have B15 := Lib.hid (B14.out.trans (b15.mono B14.out.size))
      have N15 := Lib.hid (N14.out.trans (b15.mono N14.out.size))
      clear b15 B14 N14
      go_wp2_with fail
      refine (hx.out w15 N15.out).mono ?_
      rintro e w16 ⟨rfl, b16⟩
      have B16 := Lib.hid (B15.out.trans (b16.mono B15.out.size))
      have N16 := Lib.hid (N15.out.trans (b16.mono N15.out.size))
      clear b16 B15 N15
      go_wp2_with fail
      refine (known5 w16).mono ?_
      rintro e w17 ⟨rfl, b17⟩
      have B17 := Lib.hid (B16.out.trans (b17.mono B16.out.size))
      have N17 := Lib.hid (N16.out.trans (b17.mono N16.out.size))
      clear b17 B16 N16
      go_wp2_with fail
      go_ret
      exact ⟨rfl, B17.out⟩
end Go.Proofs.Ytabhkfpglhfiiaa
