/-
  Package sexp's reader: what begins at a place.
-/
import Derived.Test.YtldleckgkgeclaaDoorSxC
import Derived.Laws.BytesArg
set_option linter.unusedVariables false
set_option linter.unusedSimpArgs false
namespace Go.Proofs.YtldleckgkgeclaaDoor
open Go.RowKit
theorem results_leaf {fn : Func} {p q r u : Tmp} (h : fn.results = #[.cell p 24, .tmp q, .tmp r, .tmp u]) {tmps : Array Value} {w : World} {g : Nat} {x0 x1 x2 x3 x4 a b c : Value} {t : TypeId}
    (hp : tmps.getD p undef = .pointer (some ⟨g, 0, none⟩)) (hq : tmps.getD q undef = a) (hr : tmps.getD r undef = b) (hu : tmps.getD u undef = c) (hg : w.heap[g]? = some (.cells #[x0, x1, x2, x3, x4] t (0, 0))) : (results fn tmps).run Tryd.prog w = .ok (.tuple #[.agg #[x0, x1, x2, x3, x4], a, b, c]) w := by
  have hp' : tmps[p]?.getD undef = .pointer (some ⟨g, 0, none⟩) := by simpa using hp
  have hq' : tmps[q]?.getD undef = a := by simpa using hq
  have hr' : tmps[r]?.getD undef = b := by simpa using hr
  have hu' : tmps[u]?.getD undef = c := by simpa using hu
  have hl := run_loadVar_row (P := Tryd.prog) w g t 24 #[x0, x1, x2, x3, x4] (0, 0) _ hg Tryd.underlying24 rfl (by show _ = some 5; kernel_rfl)
  simp [results, h, hp', hq', hr', hu', asAddr, hl]
/-- a tree without kids as a value -/
def OneIs (r : T × Int × Int × Int) (e : Ending) : Prop := e = .returned (.tuple #[.agg #[.int .i64 r.1.k, .string r.1.s, .int .i64 r.1.n, .slice none 0 0, .int .i64 r.1.at_], .int .i64 r.2.1, .int .i64 r.2.2.1, .int .i64 r.2.2.2]) ∧ r.1.kids = []
set_option maxRecDepth 100000 in
theorem conv_own {w : World} {base : Nat} {A : Option Addr} {c : Nat} {L : List UInt8} (h : w.ownsRow base 5 1 (.slice A L.length c) L.length (encL L)) :
    (Go.convert 49 9 (.slice A L.length c)).run Tryd.prog w = .ok (.string ⟨L.toArray⟩) w := by
  rcases h.2 with ⟨e, h0⟩ | ⟨g, cap, cur, e, _⟩
  · have e0 : L = [] := List.eq_nil_of_length_eq_zero h0
    subst e0
    injection e with e1
    subst e1
    rw [run_convert_bytes_nil (P := Tryd.prog) w 49 5 Tryd.underlying49 Tryd.underlying5 _ _ 9 Tryd.underlying9]
    rfl
  · injection e with e1
    subst e1
    exact run_convert_bytes_back (P := Tryd.prog) w 49 9 5 ⟨g, 0, none⟩ c L Tryd.underlying49 Tryd.underlying5 Tryd.underlying9 (fun q hq => h.cells rfl q _ (by simp [encL, encB, hq]))
set_option linter.unusedSimpArgs false in
set_option maxRecDepth 100000 in
set_option maxHeartbeats 8000000 in
theorem one_any (hP : ParseHere) (hH : HexHere) (s : ByteArray) (i : Nat) (hi : i < s.size) (hs : s.size ≤ 600) (g dn dc : Nat) (dA : Option Addr) (vo : Value) (w : World) (hE : Errs w) (hg : w.heap[g]? = some (.cells #[.string s, vo, .slice dA dn dc] 52 (0, 0))) :
    Calls Tryd.prog 19 #[.pointer (some ⟨g, 0, none⟩), .int .i64 (i : Int)] w fun e w' => OneIs (oneE s i (decide (0 < dn))) e ∧ Below w.heap.size w w' := by
  have hgl : g < w.heap.size := (Array.getElem?_eq_some_iff.1 hg).1
  have HBT := Lib.hid (bt_eq hi)
  have g0 : w.cell? ⟨g, 0, none⟩ = some (.string s) := by simp [World.cell?, hg]
  obtain ⟨w1, ew1⟩ : ∃ w1, w1 = w.alloc (.cells #[.int .i64 0, .string ⟨#[]⟩, .int .i64 0, .slice none 0 0, .int .i64 0] 24) := ⟨_, rfl⟩
  have hb1 : Below w.heap.size w w1 := by rw [ew1]; exact (Below.refl _ _).alloc (Nat.le_refl _) _
  have hs1 : w1.heap.size = w.heap.size + 1 := by rw [ew1]; simp
  have hx1 : w1.heap[w.heap.size]? = some (.cells #[.int .i64 0, .string ⟨#[]⟩, .int .i64 0, .slice none 0 0, .int .i64 0] 24 (0, 0)) := by rw [ew1]; exact heap_alloc_new w _
  have hg1 : w1.heap[g]? = some (.cells #[.string s, vo, .slice dA dn dc] 52 (0, 0)) := (hb1.block g hgl).trans hg
  have g1 : w1.cell? ⟨g, 0, none⟩ = some (.string s) := by simp [World.cell?, hg1]
  have HW1 := Lib.hid ew1
  have HX1 := Lib.hid hx1
  have HB1 := Lib.hid hb1
  clear ew1 hx1 hb1
  go_enter Tryd.func19, Tryd.ntmps19
  go_upto_region 1 with (fail)
  rw [← HW1.out]
  go_upto_region 5 with (fail)
  obtain ⟨w2, ew2⟩ : ∃ w2, w2 = w1.alloc (.cells #[.int .i64 0, .string ⟨#[]⟩, .int .i64 0, .slice none 0 0, .int .i64 (i : Int)] 24) := ⟨_, rfl⟩
  have hb2 : Below w1.heap.size w1 w2 := by rw [ew2]; exact (Below.refl _ _).alloc (Nat.le_refl _) _
  have hs2 : w2.heap.size = w.heap.size + 1 + 1 := by rw [ew2]; simp; omega
  have ht2 : w2.heap[w.heap.size + 1]? = some (.cells #[.int .i64 0, .string ⟨#[]⟩, .int .i64 0, .slice none 0 0, .int .i64 (i : Int)] 24 (0, 0)) := by rw [ew2, ← hs1]; exact heap_alloc_new w1 _
  have hx2 : w2.heap[w.heap.size]? = some (.cells #[.int .i64 0, .string ⟨#[]⟩, .int .i64 0, .slice none 0 0, .int .i64 0] 24 (0, 0)) := (hb2.block _ (by omega)).trans HX1.out
  have hg2 : w2.heap[g]? = some (.cells #[.string s, vo, .slice dA dn dc] 52 (0, 0)) := (hb2.block _ (by omega)).trans hg1
  have hbw : Below w.heap.size w w2 := HB1.out.trans (hb2.mono (by omega))
  have hE2 := hE.below hbw
  have HE := Lib.hid hE
  clear hE
  have HX2 := Lib.hid hx2
  have HT2 := Lib.hid ht2
  have HB2 := Lib.hid hbw
  have hW := Lib.hid (whole_any hg2)
  have hL := Lib.hid (letter_any s[i] w2)
  have hD := Lib.hid (digit_any s[i] w2)
  have hR := Lib.hid (run_letters s i (by omega) hs w2)
  rw [← ew2]
  clear ew2 hb2 ht2 hx2 hg2 hbw hE2 HX1 HB1 hg1 g1 hg g0 hgl HW1
  cases hwh : decide (0 < dn)
  · rw [hwh] at hW
    cases hl : letP s[i]
    · rw [hl] at hL
      cases hd : digP s[i]
      · rw [hd] at hD
        cases h45 : ((s[i].toNat : Int) == 45)
        · have p45 : Hid (¬ (s[i].toNat : Int) = 45) := Lib.hid (by simpa using h45)
          cases h34 : ((s[i].toNat : Int) == 34)
          · have p34 : Hid (¬ (s[i].toNat : Int) = 34) := Lib.hid (by simpa using h34)
            have HQ : Hid (oneE s i false = (.mk 0 ⟨#[]⟩ 0 [] i, (i : Int) + 1, 12, (i : Int))) := Lib.hid (by
              unfold oneE
              rw [HBT.out]
              simp [hl, hd, p45.out, p34.out])
            clear HBT
            go_wp2_with fail
            refine (hW.out).mono ?_
            rintro e w' ⟨rfl, rfl⟩
            go_wp2_with fail
            refine (hL.out).mono ?_
            rintro e w' ⟨rfl, rfl⟩
            go_wp2_with fail
            refine (hD.out).mono ?_
            rintro e w' ⟨rfl, rfl⟩
            obtain ⟨⟨k0, k1, k2, k3, k4⟩, f0, f1, f2, f3, f4⟩ := cell5 HT2.out
            obtain ⟨⟨l0, l1, l2, l3, l4⟩, q0, q1, q2, q3, q4⟩ := cell5 HX2.out
            go_wp2_with fail
            (try simp only [Exit.inBlock, Exit.then])
            refine bodyPost_ret (results_leaf rfl rfl rfl rfl rfl (put5_block HX2.out)) rfl ?_
            exact ⟨by rw [hwh, HQ.out]; exact ⟨rfl, rfl⟩, put5_below HB2.out (Nat.le_refl _)⟩
          · have p34 : Hid ((s[i].toNat : Int) = 34) := Lib.hid (by simpa using h34)
            obtain ⟨w3, ew3⟩ : ∃ w3, w3 = w2.setCell ⟨w.heap.size + 1, 0, none⟩ (.int .i64 4) := ⟨_, rfl⟩
            have HT3 : Hid (w3.heap[w.heap.size + 1]? = some (.cells #[.int .i64 4, .string ⟨#[]⟩, .int .i64 0, .slice none 0 0, .int .i64 (i : Int)] 24 (0, 0))) := Lib.hid (by rw [ew3]; exact set5c (k := 0) HT2.out)
            have HX3 : Hid (w3.heap[w.heap.size]? = some (.cells #[.int .i64 0, .string ⟨#[]⟩, .int .i64 0, .slice none 0 0, .int .i64 0] 24 (0, 0))) := Lib.hid (by rw [ew3]; exact (Below.heap_setCell _ ⟨w.heap.size + 1, 0, none⟩ _ w.heap.size (by simp)).trans HX2.out)
            have HB3 : Hid (Below w.heap.size w w3) := Lib.hid (by rw [ew3]; exact HB2.out.setCell (p := ⟨w.heap.size + 1, 0, none⟩) (by simp) _)
            have hs3 : w3.heap.size = w.heap.size + 1 + 1 := by rw [ew3]; simp [World.setCell]; omega
            have HW3 := Lib.hid ew3
            obtain ⟨⟨j0, j1, j2, j3, j4⟩, e0, e1, e2, e3, e4⟩ := cell5 HT2.out
            clear ew3
            have hT := Lib.hid (text_any hH s i hi hs w3)
            have HQ : Hid (oneE s i false = (.mk 4 ⟨(textE s i).1.toArray⟩ 0 [] i, ((textE s i).2.1 : Int), (textE s i).2.2.1, (textE s i).2.2.2)) := Lib.hid (by
              unfold oneE
              rw [HBT.out]
              simp [hl, hd, p45.out, p34.out])
            clear HBT
            generalize textE s i = r at *
            obtain ⟨L, en, why, pl⟩ := r
            go_wp2_with fail
            refine (hW.out).mono ?_
            rintro e w' ⟨rfl, rfl⟩
            go_wp2_with fail
            refine (hL.out).mono ?_
            rintro e w' ⟨rfl, rfl⟩
            go_wp2_with fail
            refine (hD.out).mono ?_
            rintro e w' ⟨rfl, rfl⟩
            go_upto_region 20 with (fail)
            rw [← HW3.out]
            go_wp2_with fail
            refine (hT.out).mono ?_
            rintro e w4 ⟨⟨A, c, he, hown⟩, hb4⟩
            subst he
            simp only at hown
            have hcv := conv_own hown
            have HT4 : Hid (w4.heap[w.heap.size + 1]? = some (.cells #[.int .i64 4, .string ⟨#[]⟩, .int .i64 0, .slice none 0 0, .int .i64 (i : Int)] 24 (0, 0))) := Lib.hid ((hb4.block _ (by omega)).trans HT3.out)
            have HX4 : Hid (w4.heap[w.heap.size]? = some (.cells #[.int .i64 0, .string ⟨#[]⟩, .int .i64 0, .slice none 0 0, .int .i64 0] 24 (0, 0))) := Lib.hid ((hb4.block _ (by omega)).trans HX3.out)
            have HB5 : Hid (Below w.heap.size w w4) := Lib.hid (HB3.out.trans (hb4.mono (by omega)))
            obtain ⟨⟨a0, a1, a2, a3, a4⟩, b0, b1, b2, b3, b4⟩ := cell5 HT4.out
            clear hb4 hown
            go_upto_region 22 with (fail)
            obtain ⟨wz, ewz⟩ : ∃ wz, wz = w4.setCell ⟨w.heap.size + 1, 1, none⟩ (.string ⟨L.toArray⟩) := ⟨_, rfl⟩
            have HZ : Hid (wz.heap[w.heap.size + 1]? = some (.cells #[.int .i64 4, .string ⟨L.toArray⟩, .int .i64 0, .slice none 0 0, .int .i64 (i : Int)] 24 (0, 0))) := Lib.hid (by rw [ewz]; exact set5c (k := 1) HT4.out)
            have HZ4 : Hid (wz.heap[w.heap.size]? = some (.cells #[.int .i64 0, .string ⟨#[]⟩, .int .i64 0, .slice none 0 0, .int .i64 0] 24 (0, 0))) := Lib.hid (by rw [ewz]; exact (Below.heap_setCell _ ⟨w.heap.size + 1, 1, none⟩ _ w.heap.size (by simp)).trans HX4.out)
            have HBZ : Hid (Below w.heap.size w wz) := Lib.hid (by rw [ewz]; exact HB5.out.setCell (p := ⟨w.heap.size + 1, 1, none⟩) (by simp) _)
            rw [← ewz]
            clear ewz
            obtain ⟨⟨k0, k1, k2, k3, k4⟩, f0, f1, f2, f3, f4⟩ := cell5 HZ.out
            obtain ⟨⟨l0, l1, l2, l3, l4⟩, q0, q1, q2, q3, q4⟩ := cell5 HZ4.out
            go_wp2_with fail
            (try simp only [Exit.inBlock, Exit.then])
            refine bodyPost_ret (results_leaf rfl rfl rfl rfl rfl (put5_block HZ4.out)) rfl ?_
            exact ⟨by rw [hwh, HQ.out]; exact ⟨rfl, rfl⟩, put5_below HBZ.out (Nat.le_refl _)⟩
        · have p45 : Hid ((s[i].toNat : Int) = 45) := Lib.hid (by simpa using h45)
          obtain ⟨w3, ew3⟩ : ∃ w3, w3 = w2.setCell ⟨w.heap.size + 1, 0, none⟩ (.int .i64 3) := ⟨_, rfl⟩
          have HT3 : Hid (w3.heap[w.heap.size + 1]? = some (.cells #[.int .i64 3, .string ⟨#[]⟩, .int .i64 0, .slice none 0 0, .int .i64 (i : Int)] 24 (0, 0))) := Lib.hid (by rw [ew3]; exact set5c (k := 0) HT2.out)
          have HX3 : Hid (w3.heap[w.heap.size]? = some (.cells #[.int .i64 0, .string ⟨#[]⟩, .int .i64 0, .slice none 0 0, .int .i64 0] 24 (0, 0))) := Lib.hid (by rw [ew3]; exact (Below.heap_setCell _ ⟨w.heap.size + 1, 0, none⟩ _ w.heap.size (by simp)).trans HX2.out)
          have HB3 : Hid (Below w.heap.size w w3) := Lib.hid (by rw [ew3]; exact HB2.out.setCell (p := ⟨w.heap.size + 1, 0, none⟩) (by simp) _)
          have hs3 : w3.heap.size = w.heap.size + 1 + 1 := by rw [ew3]; simp [World.setCell]; omega
          have HW3 := Lib.hid ew3
          obtain ⟨⟨j0, j1, j2, j3, j4⟩, e0, e1, e2, e3, e4⟩ := cell5 HT2.out
          clear ew3
          have hN := Lib.hid (number_any hP s i hi hs w3 (HE.out.below HB3.out))
          cases hq : numberE s i with
          | none =>
            have HQ : Hid (oneE s i false = (.mk 3 ⟨#[]⟩ 0 [] i, -1, 12, (i : Int))) := Lib.hid (by
              unfold oneE
              rw [HBT.out]
              simp [hl, hd, p45.out, hq])
            clear HBT
            rw [hq] at hN
            clear hq
            go_wp2_with fail
            refine (hW.out).mono ?_
            rintro e w' ⟨rfl, rfl⟩
            go_wp2_with fail
            refine (hL.out).mono ?_
            rintro e w' ⟨rfl, rfl⟩
            go_wp2_with fail
            refine (hD.out).mono ?_
            rintro e w' ⟨rfl, rfl⟩
            go_upto_region 14 with (fail)
            rw [← HW3.out]
            go_wp2_with fail
            refine (hN.out).mono ?_
            rintro e w4 ⟨he, hb4⟩
            unfold NumIs at he
            subst he
            have HB4 := Lib.hid hb4
            have HT4 : Hid (w4.heap[w.heap.size + 1]? = some (.cells #[.int .i64 3, .string ⟨#[]⟩, .int .i64 0, .slice none 0 0, .int .i64 (i : Int)] 24 (0, 0))) := Lib.hid ((hb4.block _ (by omega)).trans HT3.out)
            have HX4 : Hid (w4.heap[w.heap.size]? = some (.cells #[.int .i64 0, .string ⟨#[]⟩, .int .i64 0, .slice none 0 0, .int .i64 0] 24 (0, 0))) := Lib.hid ((hb4.block _ (by omega)).trans HX3.out)
            have HB5 : Hid (Below w.heap.size w w4) := Lib.hid (HB3.out.trans (hb4.mono (by omega)))
            obtain ⟨⟨a0, a1, a2, a3, a4⟩, b0, b1, b2, b3, b4⟩ := cell5 HT4.out
            clear hb4
            go_upto_region 22 with (fail)
            obtain ⟨wz, ewz⟩ : ∃ wz, wz = w4.setCell ⟨w.heap.size + 1, 2, none⟩ (.int .i64 0) := ⟨_, rfl⟩
            have HZ : Hid (wz.heap[w.heap.size + 1]? = some (.cells #[.int .i64 3, .string ⟨#[]⟩, .int .i64 0, .slice none 0 0, .int .i64 (i : Int)] 24 (0, 0))) := Lib.hid (by rw [ewz]; exact set5c (k := 2) HT4.out)
            have HZ4 : Hid (wz.heap[w.heap.size]? = some (.cells #[.int .i64 0, .string ⟨#[]⟩, .int .i64 0, .slice none 0 0, .int .i64 0] 24 (0, 0))) := Lib.hid (by rw [ewz]; exact (Below.heap_setCell _ ⟨w.heap.size + 1, 2, none⟩ _ w.heap.size (by simp)).trans HX4.out)
            have HBZ : Hid (Below w.heap.size w wz) := Lib.hid (by rw [ewz]; exact HB5.out.setCell (p := ⟨w.heap.size + 1, 2, none⟩) (by simp) _)
            rw [← ewz]
            clear ewz
            obtain ⟨⟨k0, k1, k2, k3, k4⟩, f0, f1, f2, f3, f4⟩ := cell5 HZ.out
            obtain ⟨⟨l0, l1, l2, l3, l4⟩, q0, q1, q2, q3, q4⟩ := cell5 HZ4.out
            go_wp2_with fail
            (try simp only [Exit.inBlock, Exit.then])
            refine bodyPost_ret (results_leaf rfl rfl rfl rfl rfl (put5_block HZ4.out)) rfl ?_
            exact ⟨by rw [hwh, HQ.out]; exact ⟨rfl, rfl⟩, put5_below HBZ.out (Nat.le_refl _)⟩
          | some ne =>
            obtain ⟨n, en⟩ := ne
            have HQ : Hid (oneE s i false = (.mk 3 ⟨#[]⟩ n [] i, (en : Int), 0, 0)) := Lib.hid (by
              unfold oneE
              rw [HBT.out]
              simp [hl, hd, p45.out, hq])
            clear HBT
            rw [hq] at hN
            clear hq
            have hneg : decide ((en : Int) < 0) = false := by simp
            go_wp2_with fail
            refine (hW.out).mono ?_
            rintro e w' ⟨rfl, rfl⟩
            go_wp2_with fail
            refine (hL.out).mono ?_
            rintro e w' ⟨rfl, rfl⟩
            go_wp2_with fail
            refine (hD.out).mono ?_
            rintro e w' ⟨rfl, rfl⟩
            go_upto_region 14 with (fail)
            rw [← HW3.out]
            go_wp2_with fail
            refine (hN.out).mono ?_
            rintro e w4 ⟨he, hb4⟩
            unfold NumIs at he
            subst he
            have HB4 := Lib.hid hb4
            have HT4 : Hid (w4.heap[w.heap.size + 1]? = some (.cells #[.int .i64 3, .string ⟨#[]⟩, .int .i64 0, .slice none 0 0, .int .i64 (i : Int)] 24 (0, 0))) := Lib.hid ((hb4.block _ (by omega)).trans HT3.out)
            have HX4 : Hid (w4.heap[w.heap.size]? = some (.cells #[.int .i64 0, .string ⟨#[]⟩, .int .i64 0, .slice none 0 0, .int .i64 0] 24 (0, 0))) := Lib.hid ((hb4.block _ (by omega)).trans HX3.out)
            have HB5 : Hid (Below w.heap.size w w4) := Lib.hid (HB3.out.trans (hb4.mono (by omega)))
            obtain ⟨⟨a0, a1, a2, a3, a4⟩, b0, b1, b2, b3, b4⟩ := cell5 HT4.out
            clear hb4
            go_upto_region 22 with (fail)
            obtain ⟨wz, ewz⟩ : ∃ wz, wz = w4.setCell ⟨w.heap.size + 1, 2, none⟩ (.int .i64 n) := ⟨_, rfl⟩
            have HZ : Hid (wz.heap[w.heap.size + 1]? = some (.cells #[.int .i64 3, .string ⟨#[]⟩, .int .i64 n, .slice none 0 0, .int .i64 (i : Int)] 24 (0, 0))) := Lib.hid (by rw [ewz]; exact set5c (k := 2) HT4.out)
            have HZ4 : Hid (wz.heap[w.heap.size]? = some (.cells #[.int .i64 0, .string ⟨#[]⟩, .int .i64 0, .slice none 0 0, .int .i64 0] 24 (0, 0))) := Lib.hid (by rw [ewz]; exact (Below.heap_setCell _ ⟨w.heap.size + 1, 2, none⟩ _ w.heap.size (by simp)).trans HX4.out)
            have HBZ : Hid (Below w.heap.size w wz) := Lib.hid (by rw [ewz]; exact HB5.out.setCell (p := ⟨w.heap.size + 1, 2, none⟩) (by simp) _)
            rw [← ewz]
            clear ewz
            obtain ⟨⟨k0, k1, k2, k3, k4⟩, f0, f1, f2, f3, f4⟩ := cell5 HZ.out
            obtain ⟨⟨l0, l1, l2, l3, l4⟩, q0, q1, q2, q3, q4⟩ := cell5 HZ4.out
            go_wp2_with fail
            (try simp only [Exit.inBlock, Exit.then])
            refine bodyPost_ret (results_leaf rfl rfl rfl rfl rfl (put5_block HZ4.out)) rfl ?_
            exact ⟨by rw [hwh, HQ.out]; exact ⟨rfl, rfl⟩, put5_below HBZ.out (Nat.le_refl _)⟩
      · rw [hd] at hD
        obtain ⟨w3, ew3⟩ : ∃ w3, w3 = w2.setCell ⟨w.heap.size + 1, 0, none⟩ (.int .i64 3) := ⟨_, rfl⟩
        have HT3 : Hid (w3.heap[w.heap.size + 1]? = some (.cells #[.int .i64 3, .string ⟨#[]⟩, .int .i64 0, .slice none 0 0, .int .i64 (i : Int)] 24 (0, 0))) := Lib.hid (by rw [ew3]; exact set5c (k := 0) HT2.out)
        have HX3 : Hid (w3.heap[w.heap.size]? = some (.cells #[.int .i64 0, .string ⟨#[]⟩, .int .i64 0, .slice none 0 0, .int .i64 0] 24 (0, 0))) := Lib.hid (by rw [ew3]; exact (Below.heap_setCell _ ⟨w.heap.size + 1, 0, none⟩ _ w.heap.size (by simp)).trans HX2.out)
        have HB3 : Hid (Below w.heap.size w w3) := Lib.hid (by rw [ew3]; exact HB2.out.setCell (p := ⟨w.heap.size + 1, 0, none⟩) (by simp) _)
        have hs3 : w3.heap.size = w.heap.size + 1 + 1 := by rw [ew3]; simp [World.setCell]; omega
        have HW3 := Lib.hid ew3
        obtain ⟨⟨j0, j1, j2, j3, j4⟩, e0, e1, e2, e3, e4⟩ := cell5 HT2.out
        clear ew3
        have hN := Lib.hid (number_any hP s i hi hs w3 (HE.out.below HB3.out))
        cases hq : numberE s i with
        | none =>
          have HQ : Hid (oneE s i false = (.mk 3 ⟨#[]⟩ 0 [] i, -1, 12, (i : Int))) := Lib.hid (by
            unfold oneE
            rw [HBT.out]
            simp [hl, hd, hq])
          clear HBT
          rw [hq] at hN
          clear hq
          go_wp2_with fail
          refine (hW.out).mono ?_
          rintro e w' ⟨rfl, rfl⟩
          go_wp2_with fail
          refine (hL.out).mono ?_
          rintro e w' ⟨rfl, rfl⟩
          go_wp2_with fail
          refine (hD.out).mono ?_
          rintro e w' ⟨rfl, rfl⟩
          go_upto_region 14 with (fail)
          rw [← HW3.out]
          go_wp2_with fail
          refine (hN.out).mono ?_
          rintro e w4 ⟨he, hb4⟩
          unfold NumIs at he
          subst he
          have HB4 := Lib.hid hb4
          have HT4 : Hid (w4.heap[w.heap.size + 1]? = some (.cells #[.int .i64 3, .string ⟨#[]⟩, .int .i64 0, .slice none 0 0, .int .i64 (i : Int)] 24 (0, 0))) := Lib.hid ((hb4.block _ (by omega)).trans HT3.out)
          have HX4 : Hid (w4.heap[w.heap.size]? = some (.cells #[.int .i64 0, .string ⟨#[]⟩, .int .i64 0, .slice none 0 0, .int .i64 0] 24 (0, 0))) := Lib.hid ((hb4.block _ (by omega)).trans HX3.out)
          have HB5 : Hid (Below w.heap.size w w4) := Lib.hid (HB3.out.trans (hb4.mono (by omega)))
          obtain ⟨⟨a0, a1, a2, a3, a4⟩, b0, b1, b2, b3, b4⟩ := cell5 HT4.out
          clear hb4
          go_upto_region 22 with (fail)
          obtain ⟨wz, ewz⟩ : ∃ wz, wz = w4.setCell ⟨w.heap.size + 1, 2, none⟩ (.int .i64 0) := ⟨_, rfl⟩
          have HZ : Hid (wz.heap[w.heap.size + 1]? = some (.cells #[.int .i64 3, .string ⟨#[]⟩, .int .i64 0, .slice none 0 0, .int .i64 (i : Int)] 24 (0, 0))) := Lib.hid (by rw [ewz]; exact set5c (k := 2) HT4.out)
          have HZ4 : Hid (wz.heap[w.heap.size]? = some (.cells #[.int .i64 0, .string ⟨#[]⟩, .int .i64 0, .slice none 0 0, .int .i64 0] 24 (0, 0))) := Lib.hid (by rw [ewz]; exact (Below.heap_setCell _ ⟨w.heap.size + 1, 2, none⟩ _ w.heap.size (by simp)).trans HX4.out)
          have HBZ : Hid (Below w.heap.size w wz) := Lib.hid (by rw [ewz]; exact HB5.out.setCell (p := ⟨w.heap.size + 1, 2, none⟩) (by simp) _)
          rw [← ewz]
          clear ewz
          obtain ⟨⟨k0, k1, k2, k3, k4⟩, f0, f1, f2, f3, f4⟩ := cell5 HZ.out
          obtain ⟨⟨l0, l1, l2, l3, l4⟩, q0, q1, q2, q3, q4⟩ := cell5 HZ4.out
          go_wp2_with fail
          (try simp only [Exit.inBlock, Exit.then])
          refine bodyPost_ret (results_leaf rfl rfl rfl rfl rfl (put5_block HZ4.out)) rfl ?_
          exact ⟨by rw [hwh, HQ.out]; exact ⟨rfl, rfl⟩, put5_below HBZ.out (Nat.le_refl _)⟩
        | some ne =>
          obtain ⟨n, en⟩ := ne
          have HQ : Hid (oneE s i false = (.mk 3 ⟨#[]⟩ n [] i, (en : Int), 0, 0)) := Lib.hid (by
            unfold oneE
            rw [HBT.out]
            simp [hl, hd, hq])
          clear HBT
          rw [hq] at hN
          clear hq
          have hneg : decide ((en : Int) < 0) = false := by simp
          go_wp2_with fail
          refine (hW.out).mono ?_
          rintro e w' ⟨rfl, rfl⟩
          go_wp2_with fail
          refine (hL.out).mono ?_
          rintro e w' ⟨rfl, rfl⟩
          go_wp2_with fail
          refine (hD.out).mono ?_
          rintro e w' ⟨rfl, rfl⟩
          go_upto_region 14 with (fail)
          rw [← HW3.out]
          go_wp2_with fail
          refine (hN.out).mono ?_
          rintro e w4 ⟨he, hb4⟩
          unfold NumIs at he
          subst he
          have HB4 := Lib.hid hb4
          have HT4 : Hid (w4.heap[w.heap.size + 1]? = some (.cells #[.int .i64 3, .string ⟨#[]⟩, .int .i64 0, .slice none 0 0, .int .i64 (i : Int)] 24 (0, 0))) := Lib.hid ((hb4.block _ (by omega)).trans HT3.out)
          have HX4 : Hid (w4.heap[w.heap.size]? = some (.cells #[.int .i64 0, .string ⟨#[]⟩, .int .i64 0, .slice none 0 0, .int .i64 0] 24 (0, 0))) := Lib.hid ((hb4.block _ (by omega)).trans HX3.out)
          have HB5 : Hid (Below w.heap.size w w4) := Lib.hid (HB3.out.trans (hb4.mono (by omega)))
          obtain ⟨⟨a0, a1, a2, a3, a4⟩, b0, b1, b2, b3, b4⟩ := cell5 HT4.out
          clear hb4
          go_upto_region 22 with (fail)
          obtain ⟨wz, ewz⟩ : ∃ wz, wz = w4.setCell ⟨w.heap.size + 1, 2, none⟩ (.int .i64 n) := ⟨_, rfl⟩
          have HZ : Hid (wz.heap[w.heap.size + 1]? = some (.cells #[.int .i64 3, .string ⟨#[]⟩, .int .i64 n, .slice none 0 0, .int .i64 (i : Int)] 24 (0, 0))) := Lib.hid (by rw [ewz]; exact set5c (k := 2) HT4.out)
          have HZ4 : Hid (wz.heap[w.heap.size]? = some (.cells #[.int .i64 0, .string ⟨#[]⟩, .int .i64 0, .slice none 0 0, .int .i64 0] 24 (0, 0))) := Lib.hid (by rw [ewz]; exact (Below.heap_setCell _ ⟨w.heap.size + 1, 2, none⟩ _ w.heap.size (by simp)).trans HX4.out)
          have HBZ : Hid (Below w.heap.size w wz) := Lib.hid (by rw [ewz]; exact HB5.out.setCell (p := ⟨w.heap.size + 1, 2, none⟩) (by simp) _)
          rw [← ewz]
          clear ewz
          obtain ⟨⟨k0, k1, k2, k3, k4⟩, f0, f1, f2, f3, f4⟩ := cell5 HZ.out
          obtain ⟨⟨l0, l1, l2, l3, l4⟩, q0, q1, q2, q3, q4⟩ := cell5 HZ4.out
          go_wp2_with fail
          (try simp only [Exit.inBlock, Exit.then])
          refine bodyPost_ret (results_leaf rfl rfl rfl rfl rfl (put5_block HZ4.out)) rfl ?_
          exact ⟨by rw [hwh, HQ.out]; exact ⟨rfl, rfl⟩, put5_below HBZ.out (Nat.le_refl _)⟩
    · rw [hl] at hL
      have HQ : Hid (oneE s i false = (.mk 2 (s.extract i (runE letP s i)) 0 [] i, (runE letP s i : Int), 0, 0)) := Lib.hid (by
        unfold oneE
        rw [HBT.out]
        simp [hl])
      clear HBT
      obtain ⟨k, hk⟩ : ∃ k, runE letP s i = k := ⟨_, rfl⟩
      have hge := runE_ge (p := letP) (s := s) _ i rfl
      rw [hk] at hge HQ hR
      have hk1 : i ≤ k := hge.1
      have hk2 : k ≤ s.size := hge.2 (by omega)
      clear hge hk
      go_wp2_with fail
      refine (hW.out).mono ?_
      rintro e w' ⟨rfl, rfl⟩
      go_wp2_with fail
      refine (hL.out).mono ?_
      rintro e w' ⟨rfl, rfl⟩
      go_wp2_with fail
      refine (hR.out).mono ?_
      rintro e w' ⟨rfl, rfl⟩
      go_upto_region 11 with (fail)
      obtain ⟨⟨j0, j1, j2, j3, j4⟩, e0, e1, e2, e3, e4⟩ := cell5 HT2.out
      go_region
      all_goals
        obtain ⟨wz, ewz⟩ : ∃ wz, wz = ((w2.setCell ⟨w.heap.size + 1, 0, none⟩ (.int .i64 2)).setCell ⟨w.heap.size + 1, 1, none⟩ (.string (s.extract i k))).drew := ⟨_, rfl⟩
        have HZ : Hid (wz.heap[w.heap.size + 1]? = some (.cells #[.int .i64 2, .string (s.extract i k), .int .i64 0, .slice none 0 0, .int .i64 (i : Int)] 24 (0, 0))) := Lib.hid (by rw [ewz]; exact set5c (k := 1) (set5c (k := 0) HT2.out))
        have HZ4 : Hid (wz.heap[w.heap.size]? = some (.cells #[.int .i64 0, .string ⟨#[]⟩, .int .i64 0, .slice none 0 0, .int .i64 0] 24 (0, 0))) := Lib.hid (by rw [ewz]; exact (Below.heap_setCell _ ⟨w.heap.size + 1, 1, none⟩ _ w.heap.size (by simp)).trans ((Below.heap_setCell _ ⟨w.heap.size + 1, 0, none⟩ _ w.heap.size (by simp)).trans HX2.out))
        have HBZ : Hid (Below w.heap.size w wz) := Lib.hid (by rw [ewz]; exact ((HB2.out.setCell (p := ⟨w.heap.size + 1, 0, none⟩) (by simp) _).setCell (p := ⟨w.heap.size + 1, 1, none⟩) (by simp) _).drew)
        rw [← ewz]
        clear ewz
        obtain ⟨⟨k0, k1, k2, k3, k4⟩, f0, f1, f2, f3, f4⟩ := cell5 HZ.out
        obtain ⟨⟨l0, l1, l2, l3, l4⟩, q0, q1, q2, q3, q4⟩ := cell5 HZ4.out
        go_wp2_with fail
        (try simp only [Exit.inBlock, Exit.then])
        refine bodyPost_ret (results_leaf rfl rfl rfl rfl rfl (put5_block HZ4.out)) rfl ?_
        exact ⟨by rw [hwh, HQ.out]; exact ⟨rfl, rfl⟩, put5_below HBZ.out (Nat.le_refl _)⟩
  · rw [hwh] at hW
    cases hl : letP s[i]
    · rw [hl] at hL
      cases hd : digP s[i]
      · rw [hd] at hD
        cases h45 : ((s[i].toNat : Int) == 45)
        · have p45 : Hid (¬ (s[i].toNat : Int) = 45) := Lib.hid (by simpa using h45)
          cases h34 : ((s[i].toNat : Int) == 34)
          · have p34 : Hid (¬ (s[i].toNat : Int) = 34) := Lib.hid (by simpa using h34)
            have HQ : Hid (oneE s i true = (.mk 0 ⟨#[]⟩ 0 [] i, (i : Int) + 1, 12, (i : Int))) := Lib.hid (by
              unfold oneE
              rw [HBT.out]
              simp [hl, hd, p45.out, p34.out])
            clear HBT
            go_wp2_with fail
            refine (hW.out).mono ?_
            rintro e w' ⟨rfl, rfl⟩
            go_wp2_with fail
            refine (hL.out).mono ?_
            rintro e w' ⟨rfl, rfl⟩
            go_wp2_with fail
            refine (hD.out).mono ?_
            rintro e w' ⟨rfl, rfl⟩
            go_wp2_with fail
            refine (hL.out).mono ?_
            rintro e w' ⟨rfl, rfl⟩
            go_wp2_with fail
            refine (hD.out).mono ?_
            rintro e w' ⟨rfl, rfl⟩
            obtain ⟨⟨k0, k1, k2, k3, k4⟩, f0, f1, f2, f3, f4⟩ := cell5 HT2.out
            obtain ⟨⟨l0, l1, l2, l3, l4⟩, q0, q1, q2, q3, q4⟩ := cell5 HX2.out
            go_wp2_with fail
            (try simp only [Exit.inBlock, Exit.then])
            refine bodyPost_ret (results_leaf rfl rfl rfl rfl rfl (put5_block HX2.out)) rfl ?_
            exact ⟨by rw [hwh, HQ.out]; exact ⟨rfl, rfl⟩, put5_below HB2.out (Nat.le_refl _)⟩
          · have p34 : Hid ((s[i].toNat : Int) = 34) := Lib.hid (by simpa using h34)
            have HQ : Hid (oneE s i true = (.mk 0 ⟨#[]⟩ 0 [] i, (i : Int) + 1, 11, (i : Int))) := Lib.hid (by
              unfold oneE
              rw [HBT.out]
              simp [hl, hd, p45.out, p34.out])
            clear HBT
            go_wp2_with fail
            refine (hW.out).mono ?_
            rintro e w' ⟨rfl, rfl⟩
            go_wp2_with fail
            refine (hL.out).mono ?_
            rintro e w' ⟨rfl, rfl⟩
            go_wp2_with fail
            refine (hD.out).mono ?_
            rintro e w' ⟨rfl, rfl⟩
            obtain ⟨⟨k0, k1, k2, k3, k4⟩, f0, f1, f2, f3, f4⟩ := cell5 HT2.out
            obtain ⟨⟨l0, l1, l2, l3, l4⟩, q0, q1, q2, q3, q4⟩ := cell5 HX2.out
            go_wp2_with fail
            (try simp only [Exit.inBlock, Exit.then])
            refine bodyPost_ret (results_leaf rfl rfl rfl rfl rfl (put5_block HX2.out)) rfl ?_
            exact ⟨by rw [hwh, HQ.out]; exact ⟨rfl, rfl⟩, put5_below HB2.out (Nat.le_refl _)⟩
        · have p45 : Hid ((s[i].toNat : Int) = 45) := Lib.hid (by simpa using h45)
          have HQ : Hid (oneE s i true = (.mk 0 ⟨#[]⟩ 0 [] i, (i : Int) + 1, 11, (i : Int))) := Lib.hid (by
            unfold oneE
            rw [HBT.out]
            simp [hl, hd, p45.out])
          clear HBT
          go_wp2_with fail
          refine (hW.out).mono ?_
          rintro e w' ⟨rfl, rfl⟩
          go_wp2_with fail
          refine (hL.out).mono ?_
          rintro e w' ⟨rfl, rfl⟩
          go_wp2_with fail
          refine (hD.out).mono ?_
          rintro e w' ⟨rfl, rfl⟩
          obtain ⟨⟨k0, k1, k2, k3, k4⟩, f0, f1, f2, f3, f4⟩ := cell5 HT2.out
          obtain ⟨⟨l0, l1, l2, l3, l4⟩, q0, q1, q2, q3, q4⟩ := cell5 HX2.out
          go_wp2_with fail
          (try simp only [Exit.inBlock, Exit.then])
          refine bodyPost_ret (results_leaf rfl rfl rfl rfl rfl (put5_block HX2.out)) rfl ?_
          exact ⟨by rw [hwh, HQ.out]; exact ⟨rfl, rfl⟩, put5_below HB2.out (Nat.le_refl _)⟩
      · rw [hd] at hD
        have HQ : Hid (oneE s i true = (.mk 0 ⟨#[]⟩ 0 [] i, (i : Int) + 1, 11, (i : Int))) := Lib.hid (by
          unfold oneE
          rw [HBT.out]
          simp [hl, hd])
        clear HBT
        go_wp2_with fail
        refine (hW.out).mono ?_
        rintro e w' ⟨rfl, rfl⟩
        go_wp2_with fail
        refine (hL.out).mono ?_
        rintro e w' ⟨rfl, rfl⟩
        go_wp2_with fail
        refine (hD.out).mono ?_
        rintro e w' ⟨rfl, rfl⟩
        obtain ⟨⟨k0, k1, k2, k3, k4⟩, f0, f1, f2, f3, f4⟩ := cell5 HT2.out
        obtain ⟨⟨l0, l1, l2, l3, l4⟩, q0, q1, q2, q3, q4⟩ := cell5 HX2.out
        go_wp2_with fail
        (try simp only [Exit.inBlock, Exit.then])
        refine bodyPost_ret (results_leaf rfl rfl rfl rfl rfl (put5_block HX2.out)) rfl ?_
        exact ⟨by rw [hwh, HQ.out]; exact ⟨rfl, rfl⟩, put5_below HB2.out (Nat.le_refl _)⟩
    · rw [hl] at hL
      have HQ : Hid (oneE s i true = (.mk 0 ⟨#[]⟩ 0 [] i, (i : Int) + 1, 11, (i : Int))) := Lib.hid (by
        unfold oneE
        rw [HBT.out]
        simp [hl])
      clear HBT
      go_wp2_with fail
      refine (hW.out).mono ?_
      rintro e w' ⟨rfl, rfl⟩
      go_wp2_with fail
      refine (hL.out).mono ?_
      rintro e w' ⟨rfl, rfl⟩
      obtain ⟨⟨k0, k1, k2, k3, k4⟩, f0, f1, f2, f3, f4⟩ := cell5 HT2.out
      obtain ⟨⟨l0, l1, l2, l3, l4⟩, q0, q1, q2, q3, q4⟩ := cell5 HX2.out
      go_wp2_with fail
      (try simp only [Exit.inBlock, Exit.then])
      refine bodyPost_ret (results_leaf rfl rfl rfl rfl rfl (put5_block HX2.out)) rfl ?_
      exact ⟨by rw [hwh, HQ.out]; exact ⟨rfl, rfl⟩, put5_below HB2.out (Nat.le_refl _)⟩
end Go.Proofs.YtldleckgkgeclaaDoor
