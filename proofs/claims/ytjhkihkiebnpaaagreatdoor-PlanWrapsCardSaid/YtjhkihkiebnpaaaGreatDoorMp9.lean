/-
  Package sexp's reader: what begins at a place.
-/
import Derived.Test.YtjhkihkiebnpaaaGreatDoorMp8
import Derived.Laws.BytesArg
import Derived.Test.YtjhkihkiebnpaaaGreatDoorMp1
import Derived.Test.YtjhkihkiebnpaaaGreatDoorRows
import Derived.OrdersHeld
import Derived.Deep.RegionHeld
import Derived.KernelRfl
import Derived.Test.YtjhkihkiebnpaaaGreatDoorMp0
import Derived.Test.YtjhkihkiebnpaaaGreatDoorMp4
import Derived.Test.YtjhkihkiebnpaaaGreatDoorMp7
set_option linter.unusedVariables false
set_option linter.unusedSimpArgs false
set_option linter.unusedVariables false
set_option linter.unusedSimpArgs false
namespace Go.Proofs.YtjhkihkiebnpaaaGreatDoor
open Go.RowKit
theorem results_leaf {fn : Func} {p q r u : Tmp} (h : fn.results = #[.cell p 71, .tmp q, .tmp r, .tmp u]) {tmps : Array Value} {w : World} {g : Nat} {x0 x1 x2 x3 x4 a b c : Value} {t : TypeId}
    (hp : tmps.getD p undef = .pointer (some ⟨g, 0, none⟩)) (hq : tmps.getD q undef = a) (hr : tmps.getD r undef = b) (hu : tmps.getD u undef = c) (hg : w.heap[g]? = some (.cells #[x0, x1, x2, x3, x4] t (0, 0))) : (results fn tmps).run Tryz.prog w = .ok (.tuple #[.agg #[x0, x1, x2, x3, x4], a, b, c]) w := by
  have hp' : tmps[p]?.getD undef = .pointer (some ⟨g, 0, none⟩) := by simpa using hp
  have hq' : tmps[q]?.getD undef = a := by simpa using hq
  have hr' : tmps[r]?.getD undef = b := by simpa using hr
  have hu' : tmps[u]?.getD undef = c := by simpa using hu
  have hl := run_loadVar_row (P := Tryz.prog) w g t 71 #[x0, x1, x2, x3, x4] (0, 0) _ hg Tryz.underlying71 rfl (by show _ = some 5; kernel_rfl)
  simp [results, h, hp', hq', hr', hu', asAddr, hl]
/-- a tree without kids as a value -/
def OneIs (r : T × Int × Int × Int) (e : Ending) : Prop := e = .returned (.tuple #[.agg #[.int .i64 r.1.k, .string r.1.s, .int .i64 r.1.n, .slice none 0 0, .int .i64 r.1.at_], .int .i64 r.2.1, .int .i64 r.2.2.1, .int .i64 r.2.2.2]) ∧ r.1.kids = []
set_option maxRecDepth 100000 in
theorem conv_own {w : World} {base : Nat} {A : Option Addr} {c : Nat} {L : List UInt8} (h : w.ownsRow base 5 1 (.slice A L.length c) L.length (encL L)) :
    (Go.convert 151 9 (.slice A L.length c)).run Tryz.prog w = .ok (.string ⟨L.toArray⟩) w := by
  rcases h.2 with ⟨e, h0⟩ | ⟨g, cap, cur, e, _⟩
  · have e0 : L = [] := List.eq_nil_of_length_eq_zero h0
    subst e0
    injection e with e1
    subst e1
    rw [run_convert_bytes_nil (P := Tryz.prog) w 151 5 Tryz.underlying151 Tryz.underlying5 _ _ 9 Tryz.underlying9]
    rfl
  · injection e with e1
    subst e1
    exact run_convert_bytes_back (P := Tryz.prog) w 151 9 5 ⟨g, 0, none⟩ c L Tryz.underlying151 Tryz.underlying5 Tryz.underlying9 (fun q hq => h.cells rfl q _ (by simp [encL, encB, hq]))
set_option linter.unusedSimpArgs false in
set_option maxRecDepth 100000 in
set_option maxHeartbeats 8000000 in
theorem one_any (hP : ParseHere) (hH : HexHere) (s : ByteArray) (i : Nat) (hi : i < s.size) (hs : s.size ≤ 600) (g dn dc : Nat) (dA : Option Addr) (vo : Value) (w : World) (hE : Errs w) (hg : w.heap[g]? = some (.cells #[.string s, vo, .slice dA dn dc] 102 (0, 0))) :
    Calls Tryz.prog 53 #[.pointer (some ⟨g, 0, none⟩), .int .i64 (i : Int)] w fun e w' => OneIs (oneE s i (decide (0 < dn))) e ∧ Below w.heap.size w w' := by
  have hgl : g < w.heap.size := (Array.getElem?_eq_some_iff.1 hg).1
  have HBT := Lib.hid (bt_eq hi)
  have g0 : w.cell? ⟨g, 0, none⟩ = some (.string s) := by simp [World.cell?, hg]
  obtain ⟨w1, ew1⟩ : ∃ w1, w1 = w.alloc (.cells #[.int .i64 0, .string ⟨#[]⟩, .int .i64 0, .slice none 0 0, .int .i64 0] 71) := ⟨_, rfl⟩
  have hb1 : Below w.heap.size w w1 := by rw [ew1]; exact (Below.refl _ _).alloc (Nat.le_refl _) _
  have hs1 : w1.heap.size = w.heap.size + 1 := by rw [ew1]; simp
  have hx1 : w1.heap[w.heap.size]? = some (.cells #[.int .i64 0, .string ⟨#[]⟩, .int .i64 0, .slice none 0 0, .int .i64 0] 71 (0, 0)) := by rw [ew1]; exact heap_alloc_new w _
  have hg1 : w1.heap[g]? = some (.cells #[.string s, vo, .slice dA dn dc] 102 (0, 0)) := (hb1.block g hgl).trans hg
  have g1 : w1.cell? ⟨g, 0, none⟩ = some (.string s) := by simp [World.cell?, hg1]
  have HW1 := Lib.hid ew1
  have HX1 := Lib.hid hx1
  have HB1 := Lib.hid hb1
  clear ew1 hx1 hb1
  go_enter Tryz.func53, Tryz.ntmps53
  go_upto_region 1 with (fail)
  rw [← HW1.out]
  go_upto_region 5 with (fail)
  obtain ⟨w2, ew2⟩ : ∃ w2, w2 = w1.alloc (.cells #[.int .i64 0, .string ⟨#[]⟩, .int .i64 0, .slice none 0 0, .int .i64 (i : Int)] 71) := ⟨_, rfl⟩
  have hb2 : Below w1.heap.size w1 w2 := by rw [ew2]; exact (Below.refl _ _).alloc (Nat.le_refl _) _
  have hs2 : w2.heap.size = w.heap.size + 1 + 1 := by rw [ew2]; simp; omega
  have ht2 : w2.heap[w.heap.size + 1]? = some (.cells #[.int .i64 0, .string ⟨#[]⟩, .int .i64 0, .slice none 0 0, .int .i64 (i : Int)] 71 (0, 0)) := by rw [ew2, ← hs1]; exact heap_alloc_new w1 _
  have hx2 : w2.heap[w.heap.size]? = some (.cells #[.int .i64 0, .string ⟨#[]⟩, .int .i64 0, .slice none 0 0, .int .i64 0] 71 (0, 0)) := (hb2.block _ (by omega)).trans HX1.out
  have hg2 : w2.heap[g]? = some (.cells #[.string s, vo, .slice dA dn dc] 102 (0, 0)) := (hb2.block _ (by omega)).trans hg1
  have hbw : Below w.heap.size w w2 := HB1.out.trans (hb2.mono (by omega))
  have hE2 := hE.below hbw
  have HE := Lib.hid hE
  clear hE
  have HX2 := Lib.hid hx2
  have HT2 := Lib.hid ht2
  have HB2 := Lib.hid hbw
  have hW := Lib.hid (whole_any hg2)
  have hL := Lib.hid (letter_any s[i] w2)
  have hD := Lib.hid (digit_any s[i] w2)
  have hR := Lib.hid (run_letters s i (by omega) hs w2)
  rw [← ew2]
  clear ew2 hb2 ht2 hx2 hg2 hbw hE2 HX1 HB1 hg1 g1 hg g0 hgl HW1
  cases hwh : decide (0 < dn)
  · rw [hwh] at hW
    cases hl : letP s[i]
    · rw [hl] at hL
      cases hd : digP s[i]
      · rw [hd] at hD
        cases h45 : ((s[i].toNat : Int) == 45)
        · have p45 : Hid (¬ (s[i].toNat : Int) = 45) := Lib.hid (by simpa using h45)
          cases h34 : ((s[i].toNat : Int) == 34)
          · have p34 : Hid (¬ (s[i].toNat : Int) = 34) := Lib.hid (by simpa using h34)
            have HQ : Hid (oneE s i false = (.mk 0 ⟨#[]⟩ 0 [] i, (i : Int) + 1, 12, (i : Int))) := Lib.hid (by
              unfold oneE
              rw [HBT.out]
              simp [hl, hd, p45.out, p34.out])
            clear HBT
            go_wp2_with fail
            refine (hW.out).mono ?_
            rintro e w' ⟨rfl, rfl⟩
            go_wp2_with fail
            refine (hL.out).mono ?_
            rintro e w' ⟨rfl, rfl⟩
            go_wp2_with fail
            refine (hD.out).mono ?_
            rintro e w' ⟨rfl, rfl⟩
            obtain ⟨⟨k0, k1, k2, k3, k4⟩, f0, f1, f2, f3, f4⟩ := cell5 HT2.out
            obtain ⟨⟨l0, l1, l2, l3, l4⟩, q0, q1, q2, q3, q4⟩ := cell5 HX2.out
            go_wp2_with fail
            (try simp only [Exit.inBlock, Exit.then])
            refine bodyPost_ret (results_leaf rfl rfl rfl rfl rfl (put5_block HX2.out)) rfl ?_
            exact ⟨by rw [hwh, HQ.out]; exact ⟨rfl, rfl⟩, put5_below HB2.out (Nat.le_refl _)⟩
          · have p34 : Hid ((s[i].toNat : Int) = 34) := Lib.hid (by simpa using h34)
            obtain ⟨w3, ew3⟩ : ∃ w3, w3 = w2.setCell ⟨w.heap.size + 1, 0, none⟩ (.int .i64 4) := ⟨_, rfl⟩
            have HT3 : Hid (w3.heap[w.heap.size + 1]? = some (.cells #[.int .i64 4, .string ⟨#[]⟩, .int .i64 0, .slice none 0 0, .int .i64 (i : Int)] 71 (0, 0))) := Lib.hid (by rw [ew3]; exact set5c (k := 0) HT2.out)
            have HX3 : Hid (w3.heap[w.heap.size]? = some (.cells #[.int .i64 0, .string ⟨#[]⟩, .int .i64 0, .slice none 0 0, .int .i64 0] 71 (0, 0))) := Lib.hid (by rw [ew3]; exact (Below.heap_setCell _ ⟨w.heap.size + 1, 0, none⟩ _ w.heap.size (by simp)).trans HX2.out)
            have HB3 : Hid (Below w.heap.size w w3) := Lib.hid (by rw [ew3]; exact HB2.out.setCell (p := ⟨w.heap.size + 1, 0, none⟩) (by simp) _)
            have hs3 : w3.heap.size = w.heap.size + 1 + 1 := by rw [ew3]; simp [World.setCell]; omega
            have HW3 := Lib.hid ew3
            obtain ⟨⟨j0, j1, j2, j3, j4⟩, e0, e1, e2, e3, e4⟩ := cell5 HT2.out
            clear ew3
            have hT := Lib.hid (text_any hH s i hi hs w3)
            have HQ : Hid (oneE s i false = (.mk 4 ⟨(textE s i).1.toArray⟩ 0 [] i, ((textE s i).2.1 : Int), (textE s i).2.2.1, (textE s i).2.2.2)) := Lib.hid (by
              unfold oneE
              rw [HBT.out]
              simp [hl, hd, p45.out, p34.out])
            clear HBT
            generalize textE s i = r at *
            obtain ⟨L, en, why, pl⟩ := r
            go_wp2_with fail
            refine (hW.out).mono ?_
            rintro e w' ⟨rfl, rfl⟩
            go_wp2_with fail
            refine (hL.out).mono ?_
            rintro e w' ⟨rfl, rfl⟩
            go_wp2_with fail
            refine (hD.out).mono ?_
            rintro e w' ⟨rfl, rfl⟩
            go_upto_region 20 with (fail)
            rw [← HW3.out]
            go_wp2_with fail
            refine (hT.out).mono ?_
            rintro e w4 ⟨⟨A, c, he, hown⟩, hb4⟩
            subst he
            simp only at hown
            have hcv := conv_own hown
            have HT4 : Hid (w4.heap[w.heap.size + 1]? = some (.cells #[.int .i64 4, .string ⟨#[]⟩, .int .i64 0, .slice none 0 0, .int .i64 (i : Int)] 71 (0, 0))) := Lib.hid ((hb4.block _ (by omega)).trans HT3.out)
            have HX4 : Hid (w4.heap[w.heap.size]? = some (.cells #[.int .i64 0, .string ⟨#[]⟩, .int .i64 0, .slice none 0 0, .int .i64 0] 71 (0, 0))) := Lib.hid ((hb4.block _ (by omega)).trans HX3.out)
            have HB5 : Hid (Below w.heap.size w w4) := Lib.hid (HB3.out.trans (hb4.mono (by omega)))
            obtain ⟨⟨a0, a1, a2, a3, a4⟩, b0, b1, b2, b3, b4⟩ := cell5 HT4.out
            clear hb4 hown
            go_upto_region 22 with (fail)
            obtain ⟨wz, ewz⟩ : ∃ wz, wz = w4.setCell ⟨w.heap.size + 1, 1, none⟩ (.string ⟨L.toArray⟩) := ⟨_, rfl⟩
            have HZ : Hid (wz.heap[w.heap.size + 1]? = some (.cells #[.int .i64 4, .string ⟨L.toArray⟩, .int .i64 0, .slice none 0 0, .int .i64 (i : Int)] 71 (0, 0))) := Lib.hid (by rw [ewz]; exact set5c (k := 1) HT4.out)
            have HZ4 : Hid (wz.heap[w.heap.size]? = some (.cells #[.int .i64 0, .string ⟨#[]⟩, .int .i64 0, .slice none 0 0, .int .i64 0] 71 (0, 0))) := Lib.hid (by rw [ewz]; exact (Below.heap_setCell _ ⟨w.heap.size + 1, 1, none⟩ _ w.heap.size (by simp)).trans HX4.out)
            have HBZ : Hid (Below w.heap.size w wz) := Lib.hid (by rw [ewz]; exact HB5.out.setCell (p := ⟨w.heap.size + 1, 1, none⟩) (by simp) _)
            rw [← ewz]
            clear ewz
            obtain ⟨⟨k0, k1, k2, k3, k4⟩, f0, f1, f2, f3, f4⟩ := cell5 HZ.out
            obtain ⟨⟨l0, l1, l2, l3, l4⟩, q0, q1, q2, q3, q4⟩ := cell5 HZ4.out
            go_wp2_with fail
            (try simp only [Exit.inBlock, Exit.then])
            refine bodyPost_ret (results_leaf rfl rfl rfl rfl rfl (put5_block HZ4.out)) rfl ?_
            exact ⟨by rw [hwh, HQ.out]; exact ⟨rfl, rfl⟩, put5_below HBZ.out (Nat.le_refl _)⟩
        · have p45 : Hid ((s[i].toNat : Int) = 45) := Lib.hid (by simpa using h45)
          obtain ⟨w3, ew3⟩ : ∃ w3, w3 = w2.setCell ⟨w.heap.size + 1, 0, none⟩ (.int .i64 3) := ⟨_, rfl⟩
          have HT3 : Hid (w3.heap[w.heap.size + 1]? = some (.cells #[.int .i64 3, .string ⟨#[]⟩, .int .i64 0, .slice none 0 0, .int .i64 (i : Int)] 71 (0, 0))) := Lib.hid (by rw [ew3]; exact set5c (k := 0) HT2.out)
          have HX3 : Hid (w3.heap[w.heap.size]? = some (.cells #[.int .i64 0, .string ⟨#[]⟩, .int .i64 0, .slice none 0 0, .int .i64 0] 71 (0, 0))) := Lib.hid (by rw [ew3]; exact (Below.heap_setCell _ ⟨w.heap.size + 1, 0, none⟩ _ w.heap.size (by simp)).trans HX2.out)
          have HB3 : Hid (Below w.heap.size w w3) := Lib.hid (by rw [ew3]; exact HB2.out.setCell (p := ⟨w.heap.size + 1, 0, none⟩) (by simp) _)
          have hs3 : w3.heap.size = w.heap.size + 1 + 1 := by rw [ew3]; simp [World.setCell]; omega
          have HW3 := Lib.hid ew3
          obtain ⟨⟨j0, j1, j2, j3, j4⟩, e0, e1, e2, e3, e4⟩ := cell5 HT2.out
          clear ew3
          have hN := Lib.hid (number_any hP s i hi hs w3 (HE.out.below HB3.out))
          cases hq : numberE s i with
          | none =>
            have HQ : Hid (oneE s i false = (.mk 3 ⟨#[]⟩ 0 [] i, -1, 12, (i : Int))) := Lib.hid (by
              unfold oneE
              rw [HBT.out]
              simp [hl, hd, p45.out, hq])
            clear HBT
            rw [hq] at hN
            clear hq
            go_wp2_with fail
            refine (hW.out).mono ?_
            rintro e w' ⟨rfl, rfl⟩
            go_wp2_with fail
            refine (hL.out).mono ?_
            rintro e w' ⟨rfl, rfl⟩
            go_wp2_with fail
            refine (hD.out).mono ?_
            rintro e w' ⟨rfl, rfl⟩
            go_upto_region 14 with (fail)
            rw [← HW3.out]
            go_wp2_with fail
            refine (hN.out).mono ?_
            rintro e w4 ⟨he, hb4⟩
            unfold NumIs at he
            subst he
            have HB4 := Lib.hid hb4
            have HT4 : Hid (w4.heap[w.heap.size + 1]? = some (.cells #[.int .i64 3, .string ⟨#[]⟩, .int .i64 0, .slice none 0 0, .int .i64 (i : Int)] 71 (0, 0))) := Lib.hid ((hb4.block _ (by omega)).trans HT3.out)
            have HX4 : Hid (w4.heap[w.heap.size]? = some (.cells #[.int .i64 0, .string ⟨#[]⟩, .int .i64 0, .slice none 0 0, .int .i64 0] 71 (0, 0))) := Lib.hid ((hb4.block _ (by omega)).trans HX3.out)
            have HB5 : Hid (Below w.heap.size w w4) := Lib.hid (HB3.out.trans (hb4.mono (by omega)))
            obtain ⟨⟨a0, a1, a2, a3, a4⟩, b0, b1, b2, b3, b4⟩ := cell5 HT4.out
            clear hb4
            go_upto_region 22 with (fail)
            obtain ⟨wz, ewz⟩ : ∃ wz, wz = w4.setCell ⟨w.heap.size + 1, 2, none⟩ (.int .i64 0) := ⟨_, rfl⟩
            have HZ : Hid (wz.heap[w.heap.size + 1]? = some (.cells #[.int .i64 3, .string ⟨#[]⟩, .int .i64 0, .slice none 0 0, .int .i64 (i : Int)] 71 (0, 0))) := Lib.hid (by rw [ewz]; exact set5c (k := 2) HT4.out)
            have HZ4 : Hid (wz.heap[w.heap.size]? = some (.cells #[.int .i64 0, .string ⟨#[]⟩, .int .i64 0, .slice none 0 0, .int .i64 0] 71 (0, 0))) := Lib.hid (by rw [ewz]; exact (Below.heap_setCell _ ⟨w.heap.size + 1, 2, none⟩ _ w.heap.size (by simp)).trans HX4.out)
            have HBZ : Hid (Below w.heap.size w wz) := Lib.hid (by rw [ewz]; exact HB5.out.setCell (p := ⟨w.heap.size + 1, 2, none⟩) (by simp) _)
            rw [← ewz]
            clear ewz
            obtain ⟨⟨k0, k1, k2, k3, k4⟩, f0, f1, f2, f3, f4⟩ := cell5 HZ.out
            obtain ⟨⟨l0, l1, l2, l3, l4⟩, q0, q1, q2, q3, q4⟩ := cell5 HZ4.out
            go_wp2_with fail
            (try simp only [Exit.inBlock, Exit.then])
            refine bodyPost_ret (results_leaf rfl rfl rfl rfl rfl (put5_block HZ4.out)) rfl ?_
            exact ⟨by rw [hwh, HQ.out]; exact ⟨rfl, rfl⟩, put5_below HBZ.out (Nat.le_refl _)⟩
          | some ne =>
            obtain ⟨n, en⟩ := ne
            have HQ : Hid (oneE s i false = (.mk 3 ⟨#[]⟩ n [] i, (en : Int), 0, 0)) := Lib.hid (by
              unfold oneE
              rw [HBT.out]
              simp [hl, hd, p45.out, hq])
            clear HBT
            rw [hq] at hN
            clear hq
            have hneg : decide ((en : Int) < 0) = false := by simp
            go_wp2_with fail
            refine (hW.out).mono ?_
            rintro e w' ⟨rfl, rfl⟩
            go_wp2_with fail
            refine (hL.out).mono ?_
            rintro e w' ⟨rfl, rfl⟩
            go_wp2_with fail
            refine (hD.out).mono ?_
            rintro e w' ⟨rfl, rfl⟩
            go_upto_region 14 with (fail)
            rw [← HW3.out]
            go_wp2_with fail
            refine (hN.out).mono ?_
            rintro e w4 ⟨he, hb4⟩
            unfold NumIs at he
            subst he
            have HB4 := Lib.hid hb4
            have HT4 : Hid (w4.heap[w.heap.size + 1]? = some (.cells #[.int .i64 3, .string ⟨#[]⟩, .int .i64 0, .slice none 0 0, .int .i64 (i : Int)] 71 (0, 0))) := Lib.hid ((hb4.block _ (by omega)).trans HT3.out)
            have HX4 : Hid (w4.heap[w.heap.size]? = some (.cells #[.int .i64 0, .string ⟨#[]⟩, .int .i64 0, .slice none 0 0, .int .i64 0] 71 (0, 0))) := Lib.hid ((hb4.block _ (by omega)).trans HX3.out)
            have HB5 : Hid (Below w.heap.size w w4) := Lib.hid (HB3.out.trans (hb4.mono (by omega)))
            obtain ⟨⟨a0, a1, a2, a3, a4⟩, b0, b1, b2, b3, b4⟩ := cell5 HT4.out
            clear hb4
            go_upto_region 22 with (fail)
            obtain ⟨wz, ewz⟩ : ∃ wz, wz = w4.setCell ⟨w.heap.size + 1, 2, none⟩ (.int .i64 n) := ⟨_, rfl⟩
            have HZ : Hid (wz.heap[w.heap.size + 1]? = some (.cells #[.int .i64 3, .string ⟨#[]⟩, .int .i64 n, .slice none 0 0, .int .i64 (i : Int)] 71 (0, 0))) := Lib.hid (by rw [ewz]; exact set5c (k := 2) HT4.out)
            have HZ4 : Hid (wz.heap[w.heap.size]? = some (.cells #[.int .i64 0, .string ⟨#[]⟩, .int .i64 0, .slice none 0 0, .int .i64 0] 71 (0, 0))) := Lib.hid (by rw [ewz]; exact (Below.heap_setCell _ ⟨w.heap.size + 1, 2, none⟩ _ w.heap.size (by simp)).trans HX4.out)
            have HBZ : Hid (Below w.heap.size w wz) := Lib.hid (by rw [ewz]; exact HB5.out.setCell (p := ⟨w.heap.size + 1, 2, none⟩) (by simp) _)
            rw [← ewz]
            clear ewz
            obtain ⟨⟨k0, k1, k2, k3, k4⟩, f0, f1, f2, f3, f4⟩ := cell5 HZ.out
            obtain ⟨⟨l0, l1, l2, l3, l4⟩, q0, q1, q2, q3, q4⟩ := cell5 HZ4.out
            go_wp2_with fail
            (try simp only [Exit.inBlock, Exit.then])
            refine bodyPost_ret (results_leaf rfl rfl rfl rfl rfl (put5_block HZ4.out)) rfl ?_
            exact ⟨by rw [hwh, HQ.out]; exact ⟨rfl, rfl⟩, put5_below HBZ.out (Nat.le_refl _)⟩
      · rw [hd] at hD
        obtain ⟨w3, ew3⟩ : ∃ w3, w3 = w2.setCell ⟨w.heap.size + 1, 0, none⟩ (.int .i64 3) := ⟨_, rfl⟩
        have HT3 : Hid (w3.heap[w.heap.size + 1]? = some (.cells #[.int .i64 3, .string ⟨#[]⟩, .int .i64 0, .slice none 0 0, .int .i64 (i : Int)] 71 (0, 0))) := Lib.hid (by rw [ew3]; exact set5c (k := 0) HT2.out)
        have HX3 : Hid (w3.heap[w.heap.size]? = some (.cells #[.int .i64 0, .string ⟨#[]⟩, .int .i64 0, .slice none 0 0, .int .i64 0] 71 (0, 0))) := Lib.hid (by rw [ew3]; exact (Below.heap_setCell _ ⟨w.heap.size + 1, 0, none⟩ _ w.heap.size (by simp)).trans HX2.out)
        have HB3 : Hid (Below w.heap.size w w3) := Lib.hid (by rw [ew3]; exact HB2.out.setCell (p := ⟨w.heap.size + 1, 0, none⟩) (by simp) _)
        have hs3 : w3.heap.size = w.heap.size + 1 + 1 := by rw [ew3]; simp [World.setCell]; omega
        have HW3 := Lib.hid ew3
        obtain ⟨⟨j0, j1, j2, j3, j4⟩, e0, e1, e2, e3, e4⟩ := cell5 HT2.out
        clear ew3
        have hN := Lib.hid (number_any hP s i hi hs w3 (HE.out.below HB3.out))
        cases hq : numberE s i with
        | none =>
          have HQ : Hid (oneE s i false = (.mk 3 ⟨#[]⟩ 0 [] i, -1, 12, (i : Int))) := Lib.hid (by
            unfold oneE
            rw [HBT.out]
            simp [hl, hd, hq])
          clear HBT
          rw [hq] at hN
          clear hq
          go_wp2_with fail
          refine (hW.out).mono ?_
          rintro e w' ⟨rfl, rfl⟩
          go_wp2_with fail
          refine (hL.out).mono ?_
          rintro e w' ⟨rfl, rfl⟩
          go_wp2_with fail
          refine (hD.out).mono ?_
          rintro e w' ⟨rfl, rfl⟩
          go_upto_region 14 with (fail)
          rw [← HW3.out]
          go_wp2_with fail
          refine (hN.out).mono ?_
          rintro e w4 ⟨he, hb4⟩
          unfold NumIs at he
          subst he
          have HB4 := Lib.hid hb4
          have HT4 : Hid (w4.heap[w.heap.size + 1]? = some (.cells #[.int .i64 3, .string ⟨#[]⟩, .int .i64 0, .slice none 0 0, .int .i64 (i : Int)] 71 (0, 0))) := Lib.hid ((hb4.block _ (by omega)).trans HT3.out)
          have HX4 : Hid (w4.heap[w.heap.size]? = some (.cells #[.int .i64 0, .string ⟨#[]⟩, .int .i64 0, .slice none 0 0, .int .i64 0] 71 (0, 0))) := Lib.hid ((hb4.block _ (by omega)).trans HX3.out)
          have HB5 : Hid (Below w.heap.size w w4) := Lib.hid (HB3.out.trans (hb4.mono (by omega)))
          obtain ⟨⟨a0, a1, a2, a3, a4⟩, b0, b1, b2, b3, b4⟩ := cell5 HT4.out
          clear hb4
          go_upto_region 22 with (fail)
          obtain ⟨wz, ewz⟩ : ∃ wz, wz = w4.setCell ⟨w.heap.size + 1, 2, none⟩ (.int .i64 0) := ⟨_, rfl⟩
          have HZ : Hid (wz.heap[w.heap.size + 1]? = some (.cells #[.int .i64 3, .string ⟨#[]⟩, .int .i64 0, .slice none 0 0, .int .i64 (i : Int)] 71 (0, 0))) := Lib.hid (by rw [ewz]; exact set5c (k := 2) HT4.out)
          have HZ4 : Hid (wz.heap[w.heap.size]? = some (.cells #[.int .i64 0, .string ⟨#[]⟩, .int .i64 0, .slice none 0 0, .int .i64 0] 71 (0, 0))) := Lib.hid (by rw [ewz]; exact (Below.heap_setCell _ ⟨w.heap.size + 1, 2, none⟩ _ w.heap.size (by simp)).trans HX4.out)
          have HBZ : Hid (Below w.heap.size w wz) := Lib.hid (by rw [ewz]; exact HB5.out.setCell (p := ⟨w.heap.size + 1, 2, none⟩) (by simp) _)
          rw [← ewz]
          clear ewz
          obtain ⟨⟨k0, k1, k2, k3, k4⟩, f0, f1, f2, f3, f4⟩ := cell5 HZ.out
          obtain ⟨⟨l0, l1, l2, l3, l4⟩, q0, q1, q2, q3, q4⟩ := cell5 HZ4.out
          go_wp2_with fail
          (try simp only [Exit.inBlock, Exit.then])
          refine bodyPost_ret (results_leaf rfl rfl rfl rfl rfl (put5_block HZ4.out)) rfl ?_
          exact ⟨by rw [hwh, HQ.out]; exact ⟨rfl, rfl⟩, put5_below HBZ.out (Nat.le_refl _)⟩
        | some ne =>
          obtain ⟨n, en⟩ := ne
          have HQ : Hid (oneE s i false = (.mk 3 ⟨#[]⟩ n [] i, (en : Int), 0, 0)) := Lib.hid (by
            unfold oneE
            rw [HBT.out]
            simp [hl, hd, hq])
          clear HBT
          rw [hq] at hN
          clear hq
          have hneg : decide ((en : Int) < 0) = false := by simp
          go_wp2_with fail
          refine (hW.out).mono ?_
          rintro e w' ⟨rfl, rfl⟩
          go_wp2_with fail
          refine (hL.out).mono ?_
          rintro e w' ⟨rfl, rfl⟩
          go_wp2_with fail
          refine (hD.out).mono ?_
          rintro e w' ⟨rfl, rfl⟩
          go_upto_region 14 with (fail)
          rw [← HW3.out]
          go_wp2_with fail
          refine (hN.out).mono ?_
          rintro e w4 ⟨he, hb4⟩
          unfold NumIs at he
          subst he
          have HB4 := Lib.hid hb4
          have HT4 : Hid (w4.heap[w.heap.size + 1]? = some (.cells #[.int .i64 3, .string ⟨#[]⟩, .int .i64 0, .slice none 0 0, .int .i64 (i : Int)] 71 (0, 0))) := Lib.hid ((hb4.block _ (by omega)).trans HT3.out)
          have HX4 : Hid (w4.heap[w.heap.size]? = some (.cells #[.int .i64 0, .string ⟨#[]⟩, .int .i64 0, .slice none 0 0, .int .i64 0] 71 (0, 0))) := Lib.hid ((hb4.block _ (by omega)).trans HX3.out)
          have HB5 : Hid (Below w.heap.size w w4) := Lib.hid (HB3.out.trans (hb4.mono (by omega)))
          obtain ⟨⟨a0, a1, a2, a3, a4⟩, b0, b1, b2, b3, b4⟩ := cell5 HT4.out
          clear hb4
          go_upto_region 22 with (fail)
          obtain ⟨wz, ewz⟩ : ∃ wz, wz = w4.setCell ⟨w.heap.size + 1, 2, none⟩ (.int .i64 n) := ⟨_, rfl⟩
          have HZ : Hid (wz.heap[w.heap.size + 1]? = some (.cells #[.int .i64 3, .string ⟨#[]⟩, .int .i64 n, .slice none 0 0, .int .i64 (i : Int)] 71 (0, 0))) := Lib.hid (by rw [ewz]; exact set5c (k := 2) HT4.out)
          have HZ4 : Hid (wz.heap[w.heap.size]? = some (.cells #[.int .i64 0, .string ⟨#[]⟩, .int .i64 0, .slice none 0 0, .int .i64 0] 71 (0, 0))) := Lib.hid (by rw [ewz]; exact (Below.heap_setCell _ ⟨w.heap.size + 1, 2, none⟩ _ w.heap.size (by simp)).trans HX4.out)
          have HBZ : Hid (Below w.heap.size w wz) := Lib.hid (by rw [ewz]; exact HB5.out.setCell (p := ⟨w.heap.size + 1, 2, none⟩) (by simp) _)
          rw [← ewz]
          clear ewz
          obtain ⟨⟨k0, k1, k2, k3, k4⟩, f0, f1, f2, f3, f4⟩ := cell5 HZ.out
          obtain ⟨⟨l0, l1, l2, l3, l4⟩, q0, q1, q2, q3, q4⟩ := cell5 HZ4.out
          go_wp2_with fail
          (try simp only [Exit.inBlock, Exit.then])
          refine bodyPost_ret (results_leaf rfl rfl rfl rfl rfl (put5_block HZ4.out)) rfl ?_
          exact ⟨by rw [hwh, HQ.out]; exact ⟨rfl, rfl⟩, put5_below HBZ.out (Nat.le_refl _)⟩
    · rw [hl] at hL
      have HQ : Hid (oneE s i false = (.mk 2 (s.extract i (runE letP s i)) 0 [] i, (runE letP s i : Int), 0, 0)) := Lib.hid (by
        unfold oneE
        rw [HBT.out]
        simp [hl])
      clear HBT
      obtain ⟨k, hk⟩ : ∃ k, runE letP s i = k := ⟨_, rfl⟩
      have hge := runE_ge (p := letP) (s := s) _ i rfl
      rw [hk] at hge HQ hR
      have hk1 : i ≤ k := hge.1
      have hk2 : k ≤ s.size := hge.2 (by omega)
      clear hge hk
      go_wp2_with fail
      refine (hW.out).mono ?_
      rintro e w' ⟨rfl, rfl⟩
      go_wp2_with fail
      refine (hL.out).mono ?_
      rintro e w' ⟨rfl, rfl⟩
      go_wp2_with fail
      refine (hR.out).mono ?_
      rintro e w' ⟨rfl, rfl⟩
      go_upto_region 11 with (fail)
      obtain ⟨⟨j0, j1, j2, j3, j4⟩, e0, e1, e2, e3, e4⟩ := cell5 HT2.out
      go_region
      all_goals
        obtain ⟨wz, ewz⟩ : ∃ wz, wz = ((w2.setCell ⟨w.heap.size + 1, 0, none⟩ (.int .i64 2)).setCell ⟨w.heap.size + 1, 1, none⟩ (.string (s.extract i k))).drew := ⟨_, rfl⟩
        have HZ : Hid (wz.heap[w.heap.size + 1]? = some (.cells #[.int .i64 2, .string (s.extract i k), .int .i64 0, .slice none 0 0, .int .i64 (i : Int)] 71 (0, 0))) := Lib.hid (by rw [ewz]; exact set5c (k := 1) (set5c (k := 0) HT2.out))
        have HZ4 : Hid (wz.heap[w.heap.size]? = some (.cells #[.int .i64 0, .string ⟨#[]⟩, .int .i64 0, .slice none 0 0, .int .i64 0] 71 (0, 0))) := Lib.hid (by rw [ewz]; exact (Below.heap_setCell _ ⟨w.heap.size + 1, 1, none⟩ _ w.heap.size (by simp)).trans ((Below.heap_setCell _ ⟨w.heap.size + 1, 0, none⟩ _ w.heap.size (by simp)).trans HX2.out))
        have HBZ : Hid (Below w.heap.size w wz) := Lib.hid (by rw [ewz]; exact ((HB2.out.setCell (p := ⟨w.heap.size + 1, 0, none⟩) (by simp) _).setCell (p := ⟨w.heap.size + 1, 1, none⟩) (by simp) _).drew)
        rw [← ewz]
        clear ewz
        obtain ⟨⟨k0, k1, k2, k3, k4⟩, f0, f1, f2, f3, f4⟩ := cell5 HZ.out
        obtain ⟨⟨l0, l1, l2, l3, l4⟩, q0, q1, q2, q3, q4⟩ := cell5 HZ4.out
        go_wp2_with fail
        (try simp only [Exit.inBlock, Exit.then])
        refine bodyPost_ret (results_leaf rfl rfl rfl rfl rfl (put5_block HZ4.out)) rfl ?_
        exact ⟨by rw [hwh, HQ.out]; exact ⟨rfl, rfl⟩, put5_below HBZ.out (Nat.le_refl _)⟩
  · rw [hwh] at hW
    cases hl : letP s[i]
    · rw [hl] at hL
      cases hd : digP s[i]
      · rw [hd] at hD
        cases h45 : ((s[i].toNat : Int) == 45)
        · have p45 : Hid (¬ (s[i].toNat : Int) = 45) := Lib.hid (by simpa using h45)
          cases h34 : ((s[i].toNat : Int) == 34)
          · have p34 : Hid (¬ (s[i].toNat : Int) = 34) := Lib.hid (by simpa using h34)
            have HQ : Hid (oneE s i true = (.mk 0 ⟨#[]⟩ 0 [] i, (i : Int) + 1, 12, (i : Int))) := Lib.hid (by
              unfold oneE
              rw [HBT.out]
              simp [hl, hd, p45.out, p34.out])
            clear HBT
            go_wp2_with fail
            refine (hW.out).mono ?_
            rintro e w' ⟨rfl, rfl⟩
            go_wp2_with fail
            refine (hL.out).mono ?_
            rintro e w' ⟨rfl, rfl⟩
            go_wp2_with fail
            refine (hD.out).mono ?_
            rintro e w' ⟨rfl, rfl⟩
            go_wp2_with fail
            refine (hL.out).mono ?_
            rintro e w' ⟨rfl, rfl⟩
            go_wp2_with fail
            refine (hD.out).mono ?_
            rintro e w' ⟨rfl, rfl⟩
            obtain ⟨⟨k0, k1, k2, k3, k4⟩, f0, f1, f2, f3, f4⟩ := cell5 HT2.out
            obtain ⟨⟨l0, l1, l2, l3, l4⟩, q0, q1, q2, q3, q4⟩ := cell5 HX2.out
            go_wp2_with fail
            (try simp only [Exit.inBlock, Exit.then])
            refine bodyPost_ret (results_leaf rfl rfl rfl rfl rfl (put5_block HX2.out)) rfl ?_
            exact ⟨by rw [hwh, HQ.out]; exact ⟨rfl, rfl⟩, put5_below HB2.out (Nat.le_refl _)⟩
          · have p34 : Hid ((s[i].toNat : Int) = 34) := Lib.hid (by simpa using h34)
            have HQ : Hid (oneE s i true = (.mk 0 ⟨#[]⟩ 0 [] i, (i : Int) + 1, 11, (i : Int))) := Lib.hid (by
              unfold oneE
              rw [HBT.out]
              simp [hl, hd, p45.out, p34.out])
            clear HBT
            go_wp2_with fail
            refine (hW.out).mono ?_
            rintro e w' ⟨rfl, rfl⟩
            go_wp2_with fail
            refine (hL.out).mono ?_
            rintro e w' ⟨rfl, rfl⟩
            go_wp2_with fail
            refine (hD.out).mono ?_
            rintro e w' ⟨rfl, rfl⟩
            obtain ⟨⟨k0, k1, k2, k3, k4⟩, f0, f1, f2, f3, f4⟩ := cell5 HT2.out
            obtain ⟨⟨l0, l1, l2, l3, l4⟩, q0, q1, q2, q3, q4⟩ := cell5 HX2.out
            go_wp2_with fail
            (try simp only [Exit.inBlock, Exit.then])
            refine bodyPost_ret (results_leaf rfl rfl rfl rfl rfl (put5_block HX2.out)) rfl ?_
            exact ⟨by rw [hwh, HQ.out]; exact ⟨rfl, rfl⟩, put5_below HB2.out (Nat.le_refl _)⟩
        · have p45 : Hid ((s[i].toNat : Int) = 45) := Lib.hid (by simpa using h45)
          have HQ : Hid (oneE s i true = (.mk 0 ⟨#[]⟩ 0 [] i, (i : Int) + 1, 11, (i : Int))) := Lib.hid (by
            unfold oneE
            rw [HBT.out]
            simp [hl, hd, p45.out])
          clear HBT
          go_wp2_with fail
          refine (hW.out).mono ?_
          rintro e w' ⟨rfl, rfl⟩
          go_wp2_with fail
          refine (hL.out).mono ?_
          rintro e w' ⟨rfl, rfl⟩
          go_wp2_with fail
          refine (hD.out).mono ?_
          rintro e w' ⟨rfl, rfl⟩
          obtain ⟨⟨k0, k1, k2, k3, k4⟩, f0, f1, f2, f3, f4⟩ := cell5 HT2.out
          obtain ⟨⟨l0, l1, l2, l3, l4⟩, q0, q1, q2, q3, q4⟩ := cell5 HX2.out
          go_wp2_with fail
          (try simp only [Exit.inBlock, Exit.then])
          refine bodyPost_ret (results_leaf rfl rfl rfl rfl rfl (put5_block HX2.out)) rfl ?_
          exact ⟨by rw [hwh, HQ.out]; exact ⟨rfl, rfl⟩, put5_below HB2.out (Nat.le_refl _)⟩
      · rw [hd] at hD
        have HQ : Hid (oneE s i true = (.mk 0 ⟨#[]⟩ 0 [] i, (i : Int) + 1, 11, (i : Int))) := Lib.hid (by
          unfold oneE
          rw [HBT.out]
          simp [hl, hd])
        clear HBT
        go_wp2_with fail
        refine (hW.out).mono ?_
        rintro e w' ⟨rfl, rfl⟩
        go_wp2_with fail
        refine (hL.out).mono ?_
        rintro e w' ⟨rfl, rfl⟩
        go_wp2_with fail
        refine (hD.out).mono ?_
        rintro e w' ⟨rfl, rfl⟩
        obtain ⟨⟨k0, k1, k2, k3, k4⟩, f0, f1, f2, f3, f4⟩ := cell5 HT2.out
        obtain ⟨⟨l0, l1, l2, l3, l4⟩, q0, q1, q2, q3, q4⟩ := cell5 HX2.out
        go_wp2_with fail
        (try simp only [Exit.inBlock, Exit.then])
        refine bodyPost_ret (results_leaf rfl rfl rfl rfl rfl (put5_block HX2.out)) rfl ?_
        exact ⟨by rw [hwh, HQ.out]; exact ⟨rfl, rfl⟩, put5_below HB2.out (Nat.le_refl _)⟩
    · rw [hl] at hL
      have HQ : Hid (oneE s i true = (.mk 0 ⟨#[]⟩ 0 [] i, (i : Int) + 1, 11, (i : Int))) := Lib.hid (by
        unfold oneE
        rw [HBT.out]
        simp [hl])
      clear HBT
      go_wp2_with fail
      refine (hW.out).mono ?_
      rintro e w' ⟨rfl, rfl⟩
      go_wp2_with fail
      refine (hL.out).mono ?_
      rintro e w' ⟨rfl, rfl⟩
      obtain ⟨⟨k0, k1, k2, k3, k4⟩, f0, f1, f2, f3, f4⟩ := cell5 HT2.out
      obtain ⟨⟨l0, l1, l2, l3, l4⟩, q0, q1, q2, q3, q4⟩ := cell5 HX2.out
      go_wp2_with fail
      (try simp only [Exit.inBlock, Exit.then])
      refine bodyPost_ret (results_leaf rfl rfl rfl rfl rfl (put5_block HX2.out)) rfl ?_
      exact ⟨by rw [hwh, HQ.out]; exact ⟨rfl, rfl⟩, put5_below HB2.out (Nat.le_refl _)⟩
end Go.Proofs.YtjhkihkiebnpaaaGreatDoor
/-
  Rows of trees that a reader holds: what putting a tree among a row's kids does. No program in sight.
-/
set_option linter.unusedVariables false
set_option linter.unusedSimpArgs false
namespace Go.Proofs.YtjhkihkiebnpaaaGreatDoor
open Go.RowKit
/-- only blocks of X were turned -/
structure Aside (X : Nat → Prop) (w w' : World) : Prop where
  os : w'.os = w.os
  tape : w'.tape = w.tape
  output : w'.output = w.output
  size : w.heap.size ≤ w'.heap.size
  block : ∀ b, b < w.heap.size → ¬ X b → w'.heap[b]? = w.heap[b]?
section
variable {X : Nat → Prop} {w w' w'' : World}
theorem Aside.refl : Aside X w w := ⟨rfl, rfl, rfl, Nat.le_refl _, fun _ _ _ => rfl⟩
theorem Aside.of_below (h : Below w.heap.size w w') : Aside X w w' := ⟨h.os, h.tape, h.output, h.size, fun b hb _ => h.block b hb⟩
theorem Aside.trans (h : Aside X w w') (h' : Aside X w' w'') : Aside X w w'' :=
  ⟨h'.os.trans h.os, h'.tape.trans h.tape, h'.output.trans h.output, Nat.le_trans h.size h'.size, fun b hb hx => (h'.block b (Nat.lt_of_lt_of_le hb h.size) hx).trans (h.block b hb hx)⟩
theorem Aside.mono {Y : Nat → Prop} (h : Aside X w w') (hXY : ∀ b, b < w.heap.size → X b → Y b) : Aside Y w w' := ⟨h.os, h.tape, h.output, h.size, fun b hb hy => h.block b hb fun hx => hy (hXY b hb hx)⟩
theorem Aside.alloc (h : Aside X w w') (o : Obj) : Aside X w (w'.alloc o) := h.trans (.of_below ((Below.refl _ _).alloc (Nat.le_refl _) o))
theorem Aside.drew (h : Aside X w w') : Aside X w w'.drew := h.trans (.of_below (Below.refl _ _).drew)
theorem Aside.setCell (h : Aside X w w') (p : Addr) (u : Value) (hp : p.block < w.heap.size → X p.block) : Aside X w (w'.setCell p u) := by
  have hb := (Below.refl 0 w').setCell (p := p) (Nat.zero_le _) u
  exact ⟨hb.os.trans h.os, hb.tape.trans h.tape, hb.output.trans h.output, Nat.le_trans h.size hb.size, fun b hlt hx => (Below.heap_setCell w' p u b (fun e => hx (e ▸ hp (e ▸ hlt)))).trans (h.block b hlt hx)⟩
theorem Aside.grown {row : Option Nat} (h : Aside X w w') (hg : w'.grownBy w'' row) (hr : ∀ b, row = some b → b < w.heap.size → X b) : Aside X w w'' := by
  have hb := (Below.refl 0 w').grown hg (Nat.zero_le _) (fun _ _ => Nat.zero_le _)
  exact ⟨hb.os.trans h.os, hb.tape.trans h.tape, hb.output.trans h.output, Nat.le_trans h.size hb.size, fun b hlt hx => (hg.block b (Nat.lt_of_lt_of_le hlt h.size) (fun e => hx (hr b e.symm hlt))).trans (h.block b hlt hx)⟩
theorem Aside.below {B : Nat} (h : Aside X w w') (hB : B ≤ w.heap.size) (hX : ∀ b, X b → B ≤ b) : Below B w w' := ⟨h.os, h.tape, h.output, h.size, fun b hb => h.block b (by omega) fun hx => by have := hX b hx; omega⟩
end
/-- a tree was put behind n others in the row at A, whose slice lies at place o of block gO -/
def PutEff (t : TypeId) (w w' : World) (base gO o : Nat) (cur : Array Value) (A : Option Addr) (n : Nat) (qs : List TP) (x : TP) : Prop := ∃ g' cap',
  w'.ownsRow base 71 5 (.slice (some ⟨g', 0, none⟩) (n + 1) cap') (n + 1) (flatT (qs ++ [x])) ∧
  w'.heap[gO]? = some (.cells (cur.setIfInBounds o (.slice (some ⟨g', 0, none⟩) (n + 1) cap')) t (0, 0)) ∧
  Aside (fun b => b = gO ∨ ∃ ad, A = some ad ∧ ad.block = b) w w' ∧
  ((∃ ad, A = some ad ∧ ad.block = g') ∨ w.heap.size ≤ g')
abbrev AddEff := PutEff 71
/-- the last tree of a row of the call's own is put anew -/
theorem own_put_last {w : World} {base : Nat} {e : TypeId} {g cap n : Nat} {qs : List TP} {z : List Value} {x0 x1 x2 x3 x4 : Value} (h : w.ownsRow base e 5 (.slice (some ⟨g, 0, none⟩) (n + 1) cap) (n + 1) (flatT qs ++ z)) (hn : qs.length = n) :
    (((((w.setCell ⟨g, n * 5, none⟩ x0).setCell ⟨g, n * 5 + 1, none⟩ x1).setCell ⟨g, n * 5 + 2, none⟩ x2).setCell ⟨g, n * 5 + 3, none⟩ x3).setCell ⟨g, n * 5 + 4, none⟩ x4).ownsRow base e 5 (.slice (some ⟨g, 0, none⟩) (n + 1) cap) (n + 1) (flatT qs ++ [x0, x1, x2, x3, x4]) := by
  obtain ⟨h1, h2⟩ := h
  have hfl := flatT_len qs
  have hz : z.length = 5 := by rw [List.length_append] at h1; omega
  refine ⟨by rw [List.length_append, hfl]; simp; omega, .inr ?_⟩
  rcases h2 with ⟨h', _⟩ | ⟨g', cap', cur, h', hb, hg, hnc, hcm, hcs, htake⟩
  · simp at h'
  · simp only [Value.slice.injEq, Option.some.injEq, Addr.mk.injEq, and_true, true_and] at h'
    obtain ⟨rfl, rfl⟩ := h'
    refine ⟨g, cap, ((((cur.setIfInBounds (n * 5) x0).setIfInBounds (n * 5 + 1) x1).setIfInBounds (n * 5 + 2) x2).setIfInBounds (n * 5 + 3) x3).setIfInBounds (n * 5 + 4) x4, rfl, hb, Blk.set_ (Blk.set_ (Blk.set_ (Blk.set_ (Blk.set_ hg _ _) _ _) _ _) _ _) _ _, hnc, hcm, by simpa using hcs, ?_⟩
    have hlt : (n + 1) * 5 ≤ cur.size := by rw [hcs]; omega
    apply List.ext_getElem?
    intro i
    have hti := congrArg (fun l => l[i]?) htake
    rcases Nat.lt_or_ge i ((n + 1) * 5) with hi | hi
    · rw [List.getElem?_take_of_lt hi] at hti ⊢
      rw [Array.getElem?_toList] at hti ⊢
      rcases Nat.lt_or_ge i (n * 5) with hi2 | hi2
      · rw [List.getElem?_append_left (by omega)] at hti ⊢
        rw [← hti]
        simp [Array.getElem?_setIfInBounds, show ¬ n * 5 = i by omega, show ¬ n * 5 + 1 = i by omega, show ¬ n * 5 + 2 = i by omega, show ¬ n * 5 + 3 = i by omega, show ¬ n * 5 + 4 = i by omega]
      · obtain ⟨r, rfl⟩ : ∃ r, i = n * 5 + r := ⟨i - n * 5, by omega⟩
        have hr : r < 5 := by omega
        rw [List.getElem?_append_right (by omega), show n * 5 + r - (flatT qs).length = r by omega]
        have hsz : n * 5 + 5 ≤ cur.size := by omega
        match r, hr with
        | 0, _ => simp [Array.getElem?_setIfInBounds, show n * 5 < cur.size by omega]
        | 1, _ => simp [Array.getElem?_setIfInBounds, show n * 5 + 1 < cur.size by omega]
        | 2, _ => simp [Array.getElem?_setIfInBounds, show n * 5 + 2 < cur.size by omega]
        | 3, _ => simp [Array.getElem?_setIfInBounds, show n * 5 + 3 < cur.size by omega]
        | 4, _ => simp [Array.getElem?_setIfInBounds, show n * 5 + 4 < cur.size by omega]
    · rw [List.getElem?_take_eq_none hi, List.getElem?_eq_none (by rw [List.length_append, hfl]; simp; omega)]
theorem own_sameS {w w' : World} {base n c g : Nat} {e : TypeId} {z : Nat} {xs : List Value} (h : w.ownsRow base e z (.slice (some ⟨g, 0, none⟩) n c) n xs) (hb : w'.heap[g]? = w.heap[g]?) : w'.ownsRow base e z (.slice (some ⟨g, 0, none⟩) n c) n xs := by
  refine ⟨h.1, ?_⟩
  rcases h.2 with hn | ⟨g', cap, cur, e1, hg, hgg, rest⟩
  · exact .inl hn
  · have hgg' : g = g' := by injection e1 with e1; injection e1 with e1; injection e1
    subst hgg'
    exact .inr ⟨g, cap, cur, e1, hg, by rw [hb]; exact hgg, rest⟩
theorem own_len {w : World} {base n : Nat} {e : TypeId} {v : Value} {qs : List TP} (h : w.ownsRow base e 5 v n (flatT qs)) : qs.length = n := by
  have := h.1
  rw [flatT_len] at this
  omega
section
variable {t : TypeId} {w w5 : World} {base gO o g5 cap5 n : Nat} {cur : Array Value} {A : Option Addr} {qs : List TP} {x : TP}
theorem addEff_false (hA : Aside (fun b => ∃ ad, A = some ad ∧ ad.block = b) w w5) (hg : (∃ ad, A = some ad ∧ ad.block = g5) ∨ w.heap.size ≤ g5) (hown : w5.ownsRow base 71 5 (.slice (some ⟨g5, 0, none⟩) (n + 1) cap5) (n + 1) (flatT qs ++ TP.cs x))
    (hgO : w5.heap[gO]? = some (.cells cur t (0, 0))) (hne : g5 ≠ gO) : PutEff t w (w5.setCell ⟨gO, o, none⟩ (.slice (some ⟨g5, 0, none⟩) (n + 1) cap5)) base gO o cur A n qs x := by
  refine ⟨g5, cap5, ?_, Blk.set_ hgO _ _, (hA.mono fun b _ h => .inr h).setCell _ _ (fun _ => .inl rfl), hg⟩
  rw [flatT_append, flatT_one]
  exact own_sameS hown (Below.heap_setCell w5 ⟨gO, o, none⟩ _ g5 hne)
theorem addEff_true {z : List Value} (hA : Aside (fun b => ∃ ad, A = some ad ∧ ad.block = b) w w5) (hg : (∃ ad, A = some ad ∧ ad.block = g5) ∨ w.heap.size ≤ g5) (hown : w5.ownsRow base 71 5 (.slice (some ⟨g5, 0, none⟩) (n + 1) cap5) (n + 1) (flatT qs ++ z))
    (hgO : w5.heap[gO]? = some (.cells cur t (0, 0))) (hne : g5 ≠ gO) (hq : qs.length = n) :
    PutEff t w ((((((w5.setCell ⟨gO, o, none⟩ (.slice (some ⟨g5, 0, none⟩) (n + 1) cap5)).setCell ⟨g5, n * 5, none⟩ (.int .i64 x.1.k)).setCell ⟨g5, n * 5 + 1, none⟩ (.string x.1.s)).setCell ⟨g5, n * 5 + 2, none⟩ (.int .i64 x.1.n)).setCell ⟨g5, n * 5 + 3, none⟩ (.slice x.2.1 x.1.kids.length x.2.2)).setCell ⟨g5, n * 5 + 4, none⟩ (.int .i64 x.1.at_)) base gO o cur A n qs x := by
  have hx : g5 < w.heap.size → (fun b => b = gO ∨ ∃ ad, A = some ad ∧ ad.block = b) g5 := fun h => by
    rcases hg with h' | h'
    · exact .inr h'
    · omega
  refine ⟨g5, cap5, ?_, ?_, ((((((hA.mono fun b _ h => .inr h).setCell _ _ (fun _ => .inl rfl)).setCell _ _ hx).setCell _ _ hx).setCell _ _ hx).setCell _ _ hx).setCell _ _ hx, hg⟩
  · rw [flatT_append, flatT_one]
    exact own_put_last (own_sameS hown (Below.heap_setCell w5 ⟨gO, o, none⟩ _ g5 hne)) hq
  · exact (Below.heap_setCell _ ⟨g5, n * 5 + 4, none⟩ _ gO (Ne.symm hne)).trans ((Below.heap_setCell _ ⟨g5, n * 5 + 3, none⟩ _ gO (Ne.symm hne)).trans ((Below.heap_setCell _ ⟨g5, n * 5 + 2, none⟩ _ gO (Ne.symm hne)).trans ((Below.heap_setCell _ ⟨g5, n * 5 + 1, none⟩ _ gO (Ne.symm hne)).trans ((Below.heap_setCell _ ⟨g5, n * 5, none⟩ _ gO (Ne.symm hne)).trans (Blk.set_ hgO _ _)))))
/-- the tree is put first, then the slice -/
theorem putEff_turn {z : List Value} (hA : Aside (fun b => ∃ ad, A = some ad ∧ ad.block = b) w w5) (hg : (∃ ad, A = some ad ∧ ad.block = g5) ∨ w.heap.size ≤ g5) (hown : w5.ownsRow base 71 5 (.slice (some ⟨g5, 0, none⟩) (n + 1) cap5) (n + 1) (flatT qs ++ z))
    (hgO : w5.heap[gO]? = some (.cells cur t (0, 0))) (hne : g5 ≠ gO) (hq : qs.length = n) :
    PutEff t w ((((((w5.setCell ⟨g5, n * 5, none⟩ (.int .i64 x.1.k)).setCell ⟨g5, n * 5 + 1, none⟩ (.string x.1.s)).setCell ⟨g5, n * 5 + 2, none⟩ (.int .i64 x.1.n)).setCell ⟨g5, n * 5 + 3, none⟩ (.slice x.2.1 x.1.kids.length x.2.2)).setCell ⟨g5, n * 5 + 4, none⟩ (.int .i64 x.1.at_)).setCell ⟨gO, o, none⟩ (.slice (some ⟨g5, 0, none⟩) (n + 1) cap5)) base gO o cur A n qs x := by
  have hx : g5 < w.heap.size → (fun b => b = gO ∨ ∃ ad, A = some ad ∧ ad.block = b) g5 := fun h => by
    rcases hg with h' | h'
    · exact .inr h'
    · omega
  refine ⟨g5, cap5, ?_, Blk.set_ ?_ _ _, ((((((hA.mono fun b _ h => .inr h).setCell _ _ hx).setCell _ _ hx).setCell _ _ hx).setCell _ _ hx).setCell _ _ hx).setCell _ _ (fun _ => .inl rfl), hg⟩
  · rw [flatT_append, flatT_one]
    exact own_sameS (own_put_last hown hq) (Below.heap_setCell _ ⟨gO, o, none⟩ _ g5 hne)
  · exact (Below.heap_setCell _ ⟨g5, n * 5 + 4, none⟩ _ gO (Ne.symm hne)).trans ((Below.heap_setCell _ ⟨g5, n * 5 + 3, none⟩ _ gO (Ne.symm hne)).trans ((Below.heap_setCell _ ⟨g5, n * 5 + 2, none⟩ _ gO (Ne.symm hne)).trans ((Below.heap_setCell _ ⟨g5, n * 5 + 1, none⟩ _ gO (Ne.symm hne)).trans ((Below.heap_setCell _ ⟨g5, n * 5, none⟩ _ gO (Ne.symm hne)).trans hgO))))
end
end Go.Proofs.YtjhkihkiebnpaaaGreatDoor
/-
  A region that draws its order, whose last operation (k) may write what the loads read: a load may be taken first where the cells hold until k. No program in sight.
-/
set_option linter.unusedVariables false
set_option linter.unusedSimpArgs false
namespace Go.Proofs.YtjhkihkiebnpaaaGreatDoor
namespace LastKit
section
variable {P : Program} {ops : Array Oper} {Q : Exit → Act → World → Prop} {md : Region.Mode} {S : World → Prop} {k : Nat}
/-- whatever order is picked from here on; S holds behind every operation but k -/
def wpAnyK (P : Program) (md : Region.Mode) (ops : Array Oper) (Q : Exit → Act → World → Prop) (S : World → Prop) (k : Nat) : Nat → Array Bool → Act → World → Prop
  | 0, listed, a, w => Region.ready md ops listed = [] ∧ Q .normal a w
  | fuel + 1, listed, a, w =>
    (Region.ready md ops listed = [] → Q .normal a w) ∧
    ∀ i ∈ Region.ready md ops listed, wpOp P ops Q i (fun a' w' => (i ≠ k → S w') ∧ wpAnyK P md ops Q S k fuel (listed.setIfInBounds i true) a' w') a w
theorem wpAny_of_last : ∀ (fuel : Nat) (listed : Array Bool) (a : Act) (w : World), wpAnyK P md ops Q S k fuel listed a w → wpAny P md ops Q fuel listed a w
  | 0, _, _, _, h => h
  | fuel + 1, _, _, _, h => ⟨h.1, fun i hi => wpOp_mono (fun a' w' h' => wpAny_of_last fuel _ a' w' h'.2) (h.2 i hi)⟩
theorem wpAnyK_first {i : Nat} {oi : Oper} {v : Value} {C : List Nat} (hi : ops[i]? = some oi) (hsel : ∀ (j : Nat) (o : Oper) cs b, ops[j]? = some o → o.op ≠ .select cs b)
    (hQ : ∀ c a w, Q (.panic c) (a.put oi.dst v) w → Q (.panic c) a w) (hkC : k ∈ C)
    (hC : ∀ c ∈ C, c ≠ i → ∀ o, ops[c]? = some o → ∃ e ∈ o.after, Region.binds md e = true ∧ e.on ∈ C) :
    ∀ (fuel : Nat) (listed : Array Bool) (a : Act) (w : World),
      (∀ j oj, ops[j]? = some oj → j ≠ i → listed.getD j true = false → (∀ e ∈ oj.after, Region.binds md e = true → e.on ≠ i) → oi.apart ops oj = true) →
      (∀ c ∈ C, listed.getD c true = false) →
      i ∈ Region.ready md ops listed → YieldsIf P ops S oi v a → S w →
      wpAnyK P md ops Q S k fuel (listed.setIfInBounds i true) (a.put oi.dst v) w → wpAnyK P md ops Q S k (fuel + 1) listed a w := by
  intro fuel
  induction fuel with
  | zero =>
    intro listed a w _ _ hr hy hS H
    refine ⟨fun h => (by rw [h] at hr; cases hr), fun j hj => ?_⟩
    by_cases hji : j = i
    · subst hji; exact hy.wpOp hi hS ⟨fun _ => hS, H⟩
    · have := ready_mono hj hji
      rw [H.1] at this
      cases this
  | succ fuel ih =>
    intro listed a w hfree hun hr hy hS H
    refine ⟨fun h => (by rw [h] at hr; cases hr), fun j hj => ?_⟩
    by_cases hji : j = i
    · subst hji; exact hy.wpOp hi hS ⟨fun _ => hS, H⟩
    · have h1 := H.2 j (ready_mono hj hji)
      obtain ⟨hjun, oj, hoj, hall⟩ := mem_ready.1 hj
      have hjC : j ∉ C := fun hm => by
        obtain ⟨e, he, hb, heC⟩ := hC j hm hji oj hoj
        have t1 := hall e he hb
        have t2 := hun e.on heC
        rcases Nat.lt_or_ge e.on listed.size with h' | h'
        · simp [h'] at t1 t2; rw [t1] at t2; cases t2
        · simp [Array.getElem?_eq_none h'] at t1
      have hjk : j ≠ k := fun e => hjC (by rw [e]; exact hkC)
      have hnot : ∀ e ∈ oj.after, Region.binds md e = true → e.on ≠ i := fun e he hb heq => by
        have h1 := hall e he hb
        have h0 := (mem_ready.1 hr).1
        rw [heq] at h1
        rcases Nat.lt_or_ge i listed.size with h' | h'
        · simp [h'] at h0 h1; rw [h0] at h1; cases h1
        · simp [Array.getElem?_eq_none h'] at h1
      have h2 := wpOp_putIf hoj (hfree j oj hoj hji hjun hnot) (fun cs b => hsel i oi cs b hi) (fun cs b => hsel j oj cs b hoj) hQ hy h1
      have hfree' : ∀ k ok, ops[k]? = some ok → k ≠ i → (listed.setIfInBounds j true).getD k true = false →
          (∀ e ∈ ok.after, Region.binds md e = true → e.on ≠ i) → oi.apart ops ok = true := fun k ok hk hki hun hno => by
        refine hfree k ok hk hki ?_ hno
        by_cases hjk : j = k
        · subst hjk; exact hjun
        · rw [getD_set_ne true hjk] at hun; exact hun
      have hun' : ∀ c ∈ C, (listed.setIfInBounds j true).getD c true = false := fun c hc => by
        have hne : j ≠ c := fun e => hjC (by rw [e]; exact hc)
        rw [getD_set_ne true hne]; exact hun c hc
      refine wpOp_mono (fun a' w' h3 => ⟨h3.2.1, ih (listed.setIfInBounds j true) a' w' hfree' hun' (ready_mono hr (Ne.symm hji)) h3.1 (h3.2.1 hjk) ?_⟩) h2
      rw [Array.setIfInBounds_comm _ _ hji]
      exact h3.2.2
/-- every one of C but i waits for one of C; none of them is listed; k is one of them -/
def chainOk (md : Region.Mode) (ops : Array Oper) (listed : Array Bool) (C : List Nat) (i k : Nat) : Bool :=
  C.contains k && C.all fun c => (!(listed.getD c true)) && (Nat.beq c i || match ops[c]? with
    | some o => o.after.any fun e => Region.binds md e && C.contains e.on
    | none => true)
theorem wpAnyK_take {i : Nat} {oi : Oper} {v : Value} {C : List Nat} {fuel : Nat} {listed : Array Bool} {a : Act} {w : World} (hi : ops[i]? = some oi)
    (hs : Region.noSelect ops = true) (hf : Region.free md ops listed i = true) (hr : (Region.ready md ops listed).contains i = true) (hc : chainOk md ops listed C i k = true)
    (hQ : ∀ c a w, Q (.panic c) (a.put oi.dst v) w → Q (.panic c) a w) (hy : YieldsIf P ops S oi v a) (hS : S w)
    (h : wpAnyK P md ops Q S k fuel (listed.setIfInBounds i true) (a.put oi.dst v) w) : wpAnyK P md ops Q S k (fuel + 1) listed a w := by
  unfold chainOk at hc
  simp only [Bool.and_eq_true, List.all_eq_true, Bool.or_eq_true, Nat.beq_eq] at hc
  obtain ⟨hk, hc⟩ := hc
  refine wpAnyK_first hi (Region.noSelect_spec hs) hQ (by simpa using hk) (fun c hm hne o ho => ?_) fuel listed a w (Region.free_spec hi hf) (fun c hm => by have := (hc c hm).1; simpa using this) (by simpa using hr) hy hS h
  rcases (hc c hm).2 with h' | h'
  · exact absurd h' hne
  · rw [ho] at h'
    simp only [Array.any_eq_true, Bool.and_eq_true] at h'
    obtain ⟨n, hn, hb, hcn⟩ := h'
    exact ⟨o.after[n], Array.getElem_mem hn, hb, by simpa using hcn⟩
def AllReadyK (P : Program) (md : Region.Mode) (ops : Array Oper) (Q : Exit → Act → World → Prop) (S : World → Prop) (k : Nat) (fuel : Nat) (listed : Array Bool) (a : Act) (w : World) (rs : List Nat) : Prop :=
  ∀ i ∈ rs, wpOp P ops Q i (fun a' w' => (i ≠ k → S w') ∧ wpAnyK P md ops Q S k fuel (listed.setIfInBounds i true) a' w') a w
theorem AllReadyK.nil {fuel : Nat} {listed : Array Bool} {a : Act} {w : World} : AllReadyK P md ops Q S k fuel listed a w [] := fun _ h => by cases h
theorem AllReadyK.cons {fuel : Nat} {listed : Array Bool} {a : Act} {w : World} {i : Nat} {o : Oper} {rs : List Nat} (ho : ops[i]? = some o)
    (h : ∀ K' : Act → World → Prop, Shut (∀ a w, S w → (S w → wpAnyK P md ops Q S k fuel (listed.setIfInBounds i true) a w) → K' a w) → if Region.wanted o (yielded ops a.tmps) = true then Oper.wp P o a w K' Q else K' (a.put o.dst undef) w)
    (hs : AllReadyK P md ops Q S k fuel listed a w rs) : AllReadyK P md ops Q S k fuel listed a w (i :: rs) := fun j hj => by
  rcases List.mem_cons.1 hj with rfl | hj
  · exact wpOp_step ho (fun K' hK => h K' (fun a w hS hW => hK a w ⟨fun _ => hS, hW hS⟩))
  · exact hs j hj
/-- the last one: S is not asked behind it -/
theorem AllReadyK.last {fuel : Nat} {listed : Array Bool} {a : Act} {w : World} {o : Oper} (ho : ops[k]? = some o)
    (h : ∀ K' : Act → World → Prop, Shut (∀ a w, wpAnyK P md ops Q S k fuel (listed.setIfInBounds k true) a w → K' a w) → if Region.wanted o (yielded ops a.tmps) = true then Oper.wp P o a w K' Q else K' (a.put o.dst undef) w) :
    AllReadyK P md ops Q S k fuel listed a w [k] := fun j hj => by
  obtain rfl : j = k := by simpa using hj
  exact wpOp_step ho (fun K' hK => h K' (fun a w hW => hK a w ⟨fun e => absurd rfl e, hW⟩))
theorem wpAnyK_ready {rs : List Nat} {fuel : Nat} {listed : Array Bool} {a : Act} {w : World} (hr : Region.ready md ops listed = rs) (hne : rs ≠ [])
    (h : AllReadyK P md ops Q S k fuel listed a w rs) : wpAnyK P md ops Q S k (fuel + 1) listed a w := ⟨fun h0 => absurd (hr ▸ h0) hne, hr ▸ h⟩
theorem wpAnyK_done {listed : Array Bool} {a : Act} {w : World} (hr : Region.ready md ops listed = []) (h : Q .normal a w) :
    ∀ fuel, wpAnyK P md ops Q S k fuel listed a w
  | 0 => ⟨hr, h⟩
  | _ + 1 => ⟨fun _ => h, by rw [hr]; simp⟩
theorem wp_region_last {id : Nat} {a : Act} {w : World} (S : World → Prop) (k : Nat) (hm : P.follows .mixedOrders = true) (hS : S w.drew)
    (h : S w.drew → wpAnyK P .any ops Q S k ops.size (Array.replicate ops.size false) a w.drew) : (Code.region id ops true).wp P Q a w :=
  wp_region_any hm (wpAny_of_last _ _ _ _ (h hS))
end
end LastKit
end Go.Proofs.YtjhkihkiebnpaaaGreatDoor
/-
  One operation of a region that draws: a row literal of one tree. (The walk's own simp is slow for the kernel in a large context.)
-/
set_option linter.unusedVariables false
set_option linter.unusedSimpArgs false
namespace Go.Proofs.YtjhkihkiebnpaaaGreatDoor
open Go.RowKit
set_option maxRecDepth 100000 in
set_option maxHeartbeats 4000000 in
theorem step_build5 {ops : Array Oper} {a : Act} {w : World} {K : Act → World → Prop} {Q : Exit → Act → World → Prop} {E : Prop} (o : Oper) (hg : o.guard = none) (x : Tmp) (ho : o.op = .buildSlice 69 1 #[(0, .tmp x)])
   (k n l : Int) (s : ByteArray) (A : Option Addr) (m c : Nat) (hv : a.eval (.tmp x) = .agg #[.int .i64 k, .string s, .int .i64 n, .slice A m c, .int .i64 l])
   (h : K (a.put o.dst (.slice (some ⟨w.heap.size, 0, none⟩) 1 1)) (w.alloc (.cells #[.int .i64 k, .string s, .int .i64 n, .slice A m c, .int .i64 l] 71))) :
   if Region.wanted o (yielded ops a.tmps) = true then Oper.wp Tryz.prog o a w K Q else E := by
  have hw : Region.wanted o (yielded ops a.tmps) = true := by simp [Region.wanted, hg]
  rw [if_pos hw]
  have hv' : a.tmps[x]?.getD undef = .agg #[.int .i64 k, .string s, .int .i64 n, .slice A m c, .int .i64 l] := by simpa [Act.eval] using hv
  clear hv hw
  obtain ⟨d, op, ty, p, af, gd⟩ := o
  simp only at ho hg h
  subst ho hg
  go_simp
  exact h
set_option maxRecDepth 100000 in
set_option maxHeartbeats 4000000 in
theorem step_buildZ {ops : Array Oper} {a : Act} {w : World} {K : Act → World → Prop} {Q : Exit → Act → World → Prop} {E : Prop} (o : Oper) (hg : o.guard = none) (ho : o.op = .buildSlice 69 1 #[(0, .const (.agg #[.int .i64 0, .string ⟨#[]⟩, .int .i64 0, .slice none 0 0, .int .i64 0]))])
   (h : K (a.put o.dst (.slice (some ⟨w.heap.size, 0, none⟩) 1 1)) (w.alloc (.cells #[.int .i64 0, .string ⟨#[]⟩, .int .i64 0, .slice none 0 0, .int .i64 0] 71))) :
   if Region.wanted o (yielded ops a.tmps) = true then Oper.wp Tryz.prog o a w K Q else E := by
  have hw : Region.wanted o (yielded ops a.tmps) = true := by simp [Region.wanted, hg]
  rw [if_pos hw]
  clear hw
  obtain ⟨d, op, ty, p, af, gd⟩ := o
  simp only at ho hg h
  subst ho hg
  go_simp
  exact h
end Go.Proofs.YtjhkihkiebnpaaaGreatDoor
/-
  Package sexp's reader: a tree is put among the kids of the last that is open.
-/
set_option linter.unusedVariables false
set_option linter.unusedSimpArgs false
namespace Go.Proofs.YtjhkihkiebnpaaaGreatDoor
open Go.RowKit
set_option linter.unusedSimpArgs false in
set_option maxRecDepth 100000 in
set_option maxHeartbeats 8000000 in
theorem add_kid (g gO m capO : Nat) (vd : Value) (s : ByteArray) (cur : Array Value) (A : Option Addr) (n c base : Nat) (qs : List TP) (k xn a : Int) (x : ByteArray) (l : List T) (A0 : Option Addr) (n0 c0 : Nat) (w : World)
    (hg : w.heap[g]? = some (.cells #[.string s, .slice (some ⟨gO, 0, none⟩) (m + 1) capO, vd] 102 (0, 0)))
    (hO : w.heap[gO]? = some (.cells cur 71 (0, 0))) (hcur : cur[m * 5 + 3]? = some (.slice A n c)) (hm : m ≤ 12) (hn : n ≤ 600) (hbase : base ≤ w.heap.size) (hn0 : n0 = l.length)
    (hK : w.ownsRow base 71 5 (.slice A n c) n (flatT qs)) (hAg : ∀ ad, A = some ad → ad.block ≠ g ∧ ad.block ≠ gO) :
    Calls Tryz.prog 54 #[.pointer (some ⟨g, 0, none⟩), .agg #[.int .i64 k, .string x, .int .i64 xn, .slice A0 n0 c0, .int .i64 a]] w fun e w' => e = .returned (.tuple #[]) ∧ AddEff w w' base gO (m * 5 + 3) cur A n qs ((.mk k x xn l a : T), A0, c0) := by
  have g1 : w.cell? ⟨g, 1, none⟩ = some (.slice (some ⟨gO, 0, none⟩) (m + 1) capO) := by simp [World.cell?, hg]
  have hgl : g < w.heap.size := (Array.getElem?_eq_some_iff.1 hg).1
  have c3 : w.cell? ⟨gO, m * 5 + 3, none⟩ = some (.slice A n c) := by simp [World.cell?, hO, hcur]
  have hgO : gO < w.heap.size := (Array.getElem?_eq_some_iff.1 hO).1
  have e1 : ((m + 1 : Nat) : Int) = (m : Int) + 1 := by omega
  obtain ⟨w1, ew1⟩ : ∃ w1, w1 = w.alloc (.cells #[.int .i64 k, .string x, .int .i64 xn, .slice A0 n0 c0, .int .i64 a] 71) := ⟨_, rfl⟩
  have hb1 : Below w.heap.size w w1 := by rw [ew1]; exact (Below.refl _ _).alloc (Nat.le_refl _) _
  have hs1 : w1.heap.size = w.heap.size + 1 := by rw [ew1]; simp
  have hx1 : w1.heap[w.heap.size]? = some (.cells #[.int .i64 k, .string x, .int .i64 xn, .slice A0 n0 c0, .int .i64 a] 71 (0, 0)) := by rw [ew1]; exact heap_alloc_new w _
  have HG := Lib.hid hg
  have HO := Lib.hid hO
  have HW1 := Lib.hid ew1
  have HX1 := Lib.hid hx1
  have HB1 := Lib.hid hb1
  have HK := Lib.hid hK
  have HC := Lib.hid hcur
  obtain ⟨i0, hi, hz0, hz1, hz2⟩ := info_parts tree_info
  have HN0 := Lib.hid hn0
  clear hg hO ew1 hx1 hb1 hK hcur hn0
  go_enter Tryz.func54, Tryz.ntmps54
  go_upto_region 3 with (fail)
  rw [← HW1.out]
  go_cut [12, 13] (fun _ u wx => ∃ b, u = .bool b ∧ Below w1.heap.size w1 wx)
  case first =>
    go_region
    all_goals
      go_wp2_with fail
      go_meet
      exact ⟨_, rfl, ((Below.refl w1.heap.size w1).alloc (Nat.le_refl _) _).drew⟩
  case rest =>
  obtain ⟨b, rfl, hbq⟩ := hcut
  obtain ⟨wq, rfl⟩ : ∃ wq, wq = wc := ⟨_, rfl⟩
  have hsq := hbq.size
  have hgq : wq.heap[g]? = w.heap[g]? := (hbq.block g (by omega)).trans (HB1.out.block g hgl)
  have hOq0 : wq.heap[gO]? = w.heap[gO]? := (hbq.block gO (by omega)).trans (HB1.out.block gO hgO)
  have hxq : wq.heap[w.heap.size]? = some (.cells #[.int .i64 k, .string x, .int .i64 xn, .slice A0 n0 c0, .int .i64 a] 71 (0, 0)) := (hbq.block _ (by omega)).trans HX1.out
  have HBQ : Hid (Below w.heap.size w wq) := Lib.hid (HB1.out.trans (hbq.mono (by omega)))
  have hKq := Lib.hid (own_below HK.out HBQ.out)
  have hKl : Hid (∀ ad, A = some ad → ad.block < w.heap.size) := Lib.hid (fun ad e => (HK.out.lt ad.block (by rw [e]; rfl)).2)
  have hcO0 : Hid (wq.cell? ⟨gO, m * 5 + 3, none⟩ = some (.slice A n c)) := Lib.hid ((World.cell?_of_block hOq0).trans c3)
  have hfO : Hid (wq.frozen? ⟨gO, m * 5 + 3, none⟩ = false) := Lib.hid (by simp [World.frozen?, hOq0, HO.out])
  obtain ⟨⟨x0, x1, x2, x3, x4⟩, _, _, _, _, _⟩ := cell5 hxq
  have hgq1 : wq.cell? ⟨g, 1, none⟩ = some (.slice (some ⟨gO, 0, none⟩) (m + 1) capO) := (World.cell?_of_block hgq).trans g1
  have hSB : Hid (∀ w' : World, w'.heap[g]? = wq.heap[g]? → w'.heap[gO]? = wq.heap[gO]? → w'.heap[w.heap.size]? = wq.heap[w.heap.size]? → w'.cell? ⟨g, 1, none⟩ = some (.slice (some ⟨gO, 0, none⟩) (m + 1) capO) ∧ w'.cell? ⟨gO, m * 5 + 3, none⟩ = some (.slice A n c) ∧ w'.cell? ⟨w.heap.size, 0, none⟩ = some (.int .i64 k) ∧ w'.cell? ⟨w.heap.size, 1, none⟩ = some (.string x) ∧ w'.cell? ⟨w.heap.size, 2, none⟩ = some (.int .i64 xn) ∧ w'.cell? ⟨w.heap.size, 3, none⟩ = some (.slice A0 n0 c0) ∧ w'.cell? ⟨w.heap.size, 4, none⟩ = some (.int .i64 a)) := Lib.hid (fun w' h1 h2 h3 => ⟨(World.cell?_of_block h1).trans hgq1, (World.cell?_of_block h2).trans hcO0.out, (World.cell?_of_block h3).trans x0, (World.cell?_of_block h3).trans x1, (World.cell?_of_block h3).trans x2, (World.cell?_of_block h3).trans x3, (World.cell?_of_block h3).trans x4⟩)
  have em : ((m : Int) + 1 - 1) = (m : Int) := by omega
  have ew : IntKind.i64.wrap (m : Int) = (m : Int) := by unfold IntKind.wrap; simp [IntKind.bits, IntKind.signed]; omega
  have el : (m : Int) < (m : Int) + 1 := by omega
  have hOq := Lib.hid hOq0
  clear hbq hgq hOq0 hxq x0 x1 x2 x3 x4 hgq1
  cases b
  · go_upto_region 6 with (fail)
    refine LastKit.wp_region_last (fun w' => w'.cell? ⟨g, 1, none⟩ = some (.slice (some ⟨gO, 0, none⟩) (m + 1) capO) ∧ w'.cell? ⟨gO, m * 5 + 3, none⟩ = some (.slice A n c) ∧ w'.cell? ⟨w.heap.size, 0, none⟩ = some (.int .i64 k) ∧ w'.cell? ⟨w.heap.size, 1, none⟩ = some (.string x) ∧ w'.cell? ⟨w.heap.size, 2, none⟩ = some (.int .i64 xn) ∧ w'.cell? ⟨w.heap.size, 3, none⟩ = some (.slice A0 n0 c0) ∧ w'.cell? ⟨w.heap.size, 4, none⟩ = some (.int .i64 a)) 20 (by kernel_rfl) (hSB.out _ rfl rfl rfl) (fun hHeld => ?_)
    refine LastKit.wpAnyK_take (i := 0) (C := [0, 20]) (v := ?v6_1) rfl (by kernel_rfl) (by kernel_rfl) (by kernel_rfl) (by kernel_rfl) (fun _ _ _ h => h) (Or.inl ⟨by rfl, ?hy6_1⟩) (by assumption) ?_
    case hy6_1 => (intro w1 hSw; (try dsimp only at hSw); go_simp; try with_reducible rfl)
    simp only [List.getElem_toArray, List.getElem_cons_zero, Act.put, List.setIfInBounds_toArray, List.set_cons_zero, List.set_cons_succ]
    refine LastKit.wpAnyK_take (i := 1) (C := [1, 20]) (v := ?v6_2) rfl (by kernel_rfl) (by kernel_rfl) (by kernel_rfl) (by kernel_rfl) (fun _ _ _ h => h) (Or.inl ⟨by rfl, ?hy6_2⟩) (by assumption) ?_
    case hy6_2 => (intro w1 hSw; (try dsimp only at hSw); go_simp; try with_reducible rfl)
    simp only [List.getElem_toArray, List.getElem_cons_succ, List.getElem_cons_zero, Act.put, List.setIfInBounds_toArray, List.set_cons_zero, List.set_cons_succ]
    refine LastKit.wpAnyK_take (i := 2) (C := [2, 20]) (v := ?v6_3) rfl (by kernel_rfl) (by kernel_rfl) (by kernel_rfl) (by kernel_rfl) (fun _ _ _ h => h) (Or.inl ⟨by rfl, ?hy6_3⟩) (by assumption) ?_
    case hy6_3 => (intro w1 hSw; (try dsimp only at hSw); go_simp; try with_reducible rfl)
    simp only [List.getElem_toArray, List.getElem_cons_succ, List.getElem_cons_zero, Act.put, List.setIfInBounds_toArray, List.set_cons_zero, List.set_cons_succ]
    refine LastKit.wpAnyK_take (i := 3) (C := [3, 20]) (v := ?v6_4) rfl (by kernel_rfl) (by kernel_rfl) (by kernel_rfl) (by kernel_rfl) (fun _ _ _ h => h) (Or.inl ⟨by rfl, ?hy6_4⟩) (by assumption) ?_
    case hy6_4 => (intro w1 hSw; (try dsimp only at hSw); go_simp; try with_reducible rfl)
    simp only [List.getElem_toArray, List.getElem_cons_succ, List.getElem_cons_zero, Act.put, List.setIfInBounds_toArray, List.set_cons_zero, List.set_cons_succ]
    refine LastKit.wpAnyK_take (i := 4) (C := [4, 20]) (v := ?v6_5) rfl (by kernel_rfl) (by kernel_rfl) (by kernel_rfl) (by kernel_rfl) (fun _ _ _ h => h) (Or.inl ⟨by rfl, ?hy6_5⟩) (by assumption) ?_
    case hy6_5 => (intro w1 hSw; (try dsimp only at hSw); go_simp; try with_reducible rfl)
    simp only [List.getElem_toArray, List.getElem_cons_succ, List.getElem_cons_zero, Act.put, List.setIfInBounds_toArray, List.set_cons_zero, List.set_cons_succ]
    refine LastKit.wpAnyK_take (i := 5) (C := [5, 20]) (v := ?v6_6) rfl (by kernel_rfl) (by kernel_rfl) (by kernel_rfl) (by kernel_rfl) (fun _ _ _ h => h) (Or.inl ⟨by rfl, ?hy6_6⟩) (by assumption) ?_
    case hy6_6 => (intro w1 hSw; (try dsimp only at hSw); go_simp; try with_reducible rfl)
    simp only [List.getElem_toArray, List.getElem_cons_succ, List.getElem_cons_zero, Act.put, List.setIfInBounds_toArray, List.set_cons_zero, List.set_cons_succ]
    refine LastKit.wpAnyK_take (i := 6) (C := [6, 20]) (v := ?v6_7) rfl (by kernel_rfl) (by kernel_rfl) (by kernel_rfl) (by kernel_rfl) (fun _ _ _ h => h) (Or.inl ⟨by rfl, ?hy6_7⟩) (by assumption) ?_
    case hy6_7 => (intro w1 hSw; (try dsimp only at hSw); go_simp; try with_reducible rfl)
    simp only [List.getElem_toArray, List.getElem_cons_succ, List.getElem_cons_zero, Act.put, List.setIfInBounds_toArray, List.set_cons_zero, List.set_cons_succ]
    refine LastKit.wpAnyK_take (i := 7) (C := [7, 20]) (v := ?v6_8) rfl (by kernel_rfl) (by kernel_rfl) (by kernel_rfl) (by kernel_rfl) (fun _ _ _ h => h) (Or.inl ⟨by rfl, ?hy6_8⟩) (by assumption) ?_
    case hy6_8 => (intro w1 hSw; (try dsimp only at hSw); go_simp; try with_reducible rfl)
    simp only [List.getElem_toArray, List.getElem_cons_succ, List.getElem_cons_zero, Act.put, List.setIfInBounds_toArray, List.set_cons_zero, List.set_cons_succ]
    refine LastKit.wpAnyK_take (i := 8) (C := [8, 20]) (v := ?v6_9) rfl (by kernel_rfl) (by kernel_rfl) (by kernel_rfl) (by kernel_rfl) (fun _ _ _ h => h) (Or.inl ⟨by rfl, ?hy6_9⟩) (by assumption) ?_
    case hy6_9 => (intro w1 hSw; (try dsimp only at hSw); go_simp; try with_reducible rfl)
    simp only [List.getElem_toArray, List.getElem_cons_succ, List.getElem_cons_zero, Act.put, List.setIfInBounds_toArray, List.set_cons_zero, List.set_cons_succ]
    refine LastKit.wpAnyK_take (i := 9) (C := [9, 20]) (v := ?v6_10) rfl (by kernel_rfl) (by kernel_rfl) (by kernel_rfl) (by kernel_rfl) (fun _ _ _ h => h) (Or.inl ⟨by rfl, ?hy6_10⟩) (by assumption) ?_
    case hy6_10 => (intro w1 hSw; (try dsimp only at hSw); go_simp; try with_reducible rfl)
    simp only [List.getElem_toArray, List.getElem_cons_succ, List.getElem_cons_zero, Act.put, List.setIfInBounds_toArray, List.set_cons_zero, List.set_cons_succ]
    refine LastKit.wpAnyK_take (i := 10) (C := [10, 20]) (v := ?v6_11) rfl (by kernel_rfl) (by kernel_rfl) (by kernel_rfl) (by kernel_rfl) (fun _ _ _ h => h) (Or.inl ⟨by rfl, ?hy6_11⟩) (by assumption) ?_
    case hy6_11 => (intro w1 hSw; (try dsimp only at hSw); go_simp; try with_reducible rfl)
    simp only [List.getElem_toArray, List.getElem_cons_succ, List.getElem_cons_zero, Act.put, List.setIfInBounds_toArray, List.set_cons_zero, List.set_cons_succ]
    refine LastKit.wpAnyK_take (i := 11) (C := [11, 20]) (v := ?v6_12) rfl (by kernel_rfl) (by kernel_rfl) (by kernel_rfl) (by kernel_rfl) (fun _ _ _ h => h) (Or.inl ⟨by rfl, ?hy6_12⟩) (by assumption) ?_
    case hy6_12 => (intro w1 hSw; (try dsimp only at hSw); go_simp; try with_reducible rfl)
    simp only [List.getElem_toArray, List.getElem_cons_succ, List.getElem_cons_zero, Act.put, List.setIfInBounds_toArray, List.set_cons_zero, List.set_cons_succ]
    refine LastKit.wpAnyK_take (i := 12) (C := [12, 20]) (v := ?v6_13) rfl (by kernel_rfl) (by kernel_rfl) (by kernel_rfl) (by kernel_rfl) (fun _ _ _ h => h) (Or.inl ⟨by rfl, ?hy6_13⟩) (by assumption) ?_
    case hy6_13 => (intro w1 hSw; (try dsimp only at hSw); go_simp; try with_reducible rfl)
    simp only [List.getElem_toArray, List.getElem_cons_succ, List.getElem_cons_zero, Act.put, List.setIfInBounds_toArray, List.set_cons_zero, List.set_cons_succ]
    refine LastKit.wpAnyK_take (i := 13) (C := [13, 20]) (v := ?v6_14) rfl (by kernel_rfl) (by kernel_rfl) (by kernel_rfl) (by kernel_rfl) (fun _ _ _ h => h) (Or.inl ⟨by rfl, ?hy6_14⟩) (by assumption) ?_
    case hy6_14 => (intro w1 hSw; (try dsimp only at hSw); go_simp; try with_reducible rfl)
    simp only [List.getElem_toArray, List.getElem_cons_succ, List.getElem_cons_zero, Act.put, List.setIfInBounds_toArray, List.set_cons_zero, List.set_cons_succ]
    refine LastKit.wpAnyK_take (i := 14) (C := [14, 20]) (v := ?v6_15) rfl (by kernel_rfl) (by kernel_rfl) (by kernel_rfl) (by kernel_rfl) (fun _ _ _ h => h) (Or.inl ⟨by rfl, ?hy6_15⟩) (by assumption) ?_
    case hy6_15 => (intro w1 hSw; (try dsimp only at hSw); go_simp; try with_reducible rfl)
    simp only [List.getElem_toArray, List.getElem_cons_succ, List.getElem_cons_zero, Act.put, List.setIfInBounds_toArray, List.set_cons_zero, List.set_cons_succ]
    refine LastKit.wpAnyK_take (i := 15) (C := [15, 20]) (v := ?v6_16) rfl (by kernel_rfl) (by kernel_rfl) (by kernel_rfl) (by kernel_rfl) (fun _ _ _ h => h) (Or.inl ⟨by rfl, ?hy6_16⟩) (by assumption) ?_
    case hy6_16 => (intro w1 hSw; (try dsimp only at hSw); go_simp; try with_reducible rfl)
    simp only [List.getElem_toArray, List.getElem_cons_succ, List.getElem_cons_zero, Act.put, List.setIfInBounds_toArray, List.set_cons_zero, List.set_cons_succ]
    refine LastKit.wpAnyK_ready (rs := [16]) (by kernel_rfl) (by simp) ?_
    refine (LastKit.AllReadyK.cons rfl (fun K hK => ?_) LastKit.AllReadyK.nil)
    refine step_build5 _ rfl 51 rfl k xn a x A0 n0 c0 rfl ?_
    refine hK.out _ _ (hSB.out _ (Below.heap_alloc _ _ _ (by simp; omega)) (Below.heap_alloc _ _ _ (by simp; omega)) (Below.heap_alloc _ _ _ (by simp; omega))) (fun hHeld => ?_)
    clear hK K
    simp only [List.getElem_toArray, List.getElem_cons_succ, List.getElem_cons_zero, Act.put, List.setIfInBounds_toArray, List.set_cons_zero, List.set_cons_succ, World.size_alloc, World.size_drew]
    refine LastKit.wpAnyK_ready (rs := [17]) (by kernel_rfl) (by simp) ?_
    refine (LastKit.AllReadyK.cons rfl (fun K hK => ?_) LastKit.AllReadyK.nil)
    refine step_append_lies _ rfl _ _ 69 rfl base 71 i0 _ 5 64 Tryz.underlying69 hi hz0 hz1 hz2 rfl (by decide) (.slice A n c) n (flatT qs) rfl (own_below hKq.out ((Below.refl wq.heap.size wq).drew.trans ((Below.refl wq.heap.size wq.drew).alloc (Nat.le_refl _) (.cells #[.int .i64 k, .string x, .int .i64 xn, .slice A0 n0 c0, .int .i64 a] 71)))) ⟨wq.heap.size, 0, none⟩ 1 1 [.int .i64 k, .string x, .int .i64 xn, .slice A0 n0 c0, .int .i64 a] rfl rfl (World.news_of_block (heap_alloc_new wq.drew (.cells #[.int .i64 k, .string x, .int .i64 xn, .slice A0 n0 c0, .int .i64 a] 71))) ?a0 (by decide) ?a1 ?a2 ?a3 _ rfl ?_
    case a0 => (intro u hu; simp only [List.mem_cons, List.not_mem_nil, or_false] at hu; rcases hu with rfl | rfl | rfl | rfl | rfl <;> rfl)
    case a1 => (unfold maxLen; omega)
    case a2 => omega
    case a3 => (simp; omega)
    intro g5 cap5 w5 hown5 hgrow5 hat5 hlt5
    have hkeep : ∀ b, b < wq.heap.size → (∀ ad, A = some ad → ad.block ≠ b) → w5.heap[b]? = wq.heap[b]? := fun b hb hA => (hgrow5.block b (by simp; omega) (fun e => by cases A with | none => simp [Value.ownBlock] at e | some ad => exact hA ad rfl (by simpa [Value.ownBlock] using e.symm))).trans (Below.heap_alloc wq.drew _ b hb)
    have hk1 := hkeep g (by omega) (fun ad e => (hAg ad e).1)
    have hk2 := hkeep gO (by omega) (fun ad e => (hAg ad e).2)
    have hk3 := hkeep w.heap.size (by omega) (fun ad e e2 => by have := (hKl.out ad e); omega)
    have HS5 := Lib.hid (And.intro hk1 (And.intro hk2 hk3))
    have HA5 : Hid (Aside (fun b => ∃ ad, A = some ad ∧ ad.block = b) w w5) := Lib.hid (((Aside.of_below HBQ.out).drew.alloc _).grown hgrow5 (fun b e _ => by cases A with | none => simp [Value.ownBlock] at e | some ad => exact ⟨ad, rfl, by simpa [Value.ownBlock] using e⟩))
    have HG5 : Hid ((∃ ad, A = some ad ∧ ad.block = g5) ∨ w.heap.size ≤ g5) := Lib.hid (hat5.elim (fun e => Or.inl (by cases A with | none => simp [Value.ownBlock] at e | some ad => exact ⟨ad, rfl, by simpa [Value.ownBlock] using e⟩)) (fun e => Or.inr (by simp at e; omega)))
    have HO5 := Lib.hid hown5
    have HL5 := Lib.hid hlt5
    have hgO5 : Hid (w5.heap[gO]? = some (.cells cur 71 (0, 0))) := Lib.hid (hk2.trans (hOq.out.trans HO.out))
    have hne5 : g5 ≠ gO := HG5.out.elim (fun h => h.elim fun ad e2 => by have := (hAg ad e2.1).2; omega) (fun h => by omega)
    have hfz : w5.frozen? ⟨gO, m * 5 + 3, none⟩ = false := (World.frozen?_of_block hk2).trans hfO.out
    have hcO : w5.cell? ⟨gO, m * 5 + 3, none⟩ = some (.slice A n c) := (World.cell?_of_block hk2).trans hcO0.out
    clear hown5 hgrow5 hat5 hlt5 hkeep
    refine hK.out _ _ (hSB.out _ hk1 hk2 hk3) (fun hHeld => ?_)
    clear hK K hk1 hk2 hk3
    simp only [List.getElem_toArray, List.getElem_cons_succ, List.getElem_cons_zero, Act.put, List.setIfInBounds_toArray, List.set_cons_zero, List.set_cons_succ]
    refine LastKit.wpAnyK_take (i := 18) (C := [18, 19, 20]) (v := ?v6_17) rfl (by kernel_rfl) (by kernel_rfl) (by kernel_rfl) (by kernel_rfl) (fun _ _ _ h => h) (Or.inl ⟨by rfl, ?hy6_17⟩) (by assumption) ?_
    case hy6_17 => (intro w1 hSw; (try dsimp only at hSw); go_simp; try with_reducible rfl)
    simp only [List.getElem_toArray, List.getElem_cons_succ, List.getElem_cons_zero, Act.put, List.setIfInBounds_toArray, List.set_cons_zero, List.set_cons_succ]
    refine LastKit.wpAnyK_take (i := 19) (C := [19, 20]) (v := ?v6_18) rfl (by kernel_rfl) (by kernel_rfl) (by kernel_rfl) (by kernel_rfl) (fun _ _ _ h => h) (Or.inl ⟨by rfl, ?hy6_18⟩) (by assumption) ?_
    case hy6_18 => (intro w1 hSw; (try dsimp only at hSw); go_simp; try with_reducible rfl)
    simp only [List.getElem_toArray, List.getElem_cons_succ, List.getElem_cons_zero, Act.put, List.setIfInBounds_toArray, List.set_cons_zero, List.set_cons_succ]
    refine LastKit.wpAnyK_ready (rs := [20]) (by kernel_rfl) (by simp) ?_
    refine LastKit.AllReadyK.last rfl (fun K hK => ?_)
    simp only [List.getElem_toArray, List.getElem_cons_succ, List.getElem_cons_zero]
    go_simp
    refine hK.out _ _ ?_
    clear hK K
    refine LastKit.wpAnyK_done (by kernel_rfl) ?_ _
    have hFin := Lib.hid (addEff_false (x := ((.mk k x xn l a : T), A0, c0)) (o := m * 5 + 3) HA5.out HG5.out (by rw [HN0.out] at HO5; exact HO5.out) hgO5.out hne5)
    clear HA5 HG5 HO5 HL5 hgO5 hfz hcO hSB HS5
    go_wp2_with fail
    first
      | refine bodyPost_end (results_none rfl _ _ _) rfl ?_
      | refine bodyPost_ret (results_none rfl _ _ _) rfl ?_
    exact ⟨rfl, hFin.out⟩
  · go_upto_region 4 with (fail)
    refine LastKit.wp_region_last (fun w' => w'.cell? ⟨g, 1, none⟩ = some (.slice (some ⟨gO, 0, none⟩) (m + 1) capO) ∧ w'.cell? ⟨gO, m * 5 + 3, none⟩ = some (.slice A n c) ∧ w'.cell? ⟨w.heap.size, 0, none⟩ = some (.int .i64 k) ∧ w'.cell? ⟨w.heap.size, 1, none⟩ = some (.string x) ∧ w'.cell? ⟨w.heap.size, 2, none⟩ = some (.int .i64 xn) ∧ w'.cell? ⟨w.heap.size, 3, none⟩ = some (.slice A0 n0 c0) ∧ w'.cell? ⟨w.heap.size, 4, none⟩ = some (.int .i64 a)) 21 (by kernel_rfl) (hSB.out _ rfl rfl rfl) (fun hHeld => ?_)
    refine LastKit.wpAnyK_take (i := 0) (C := [0, 21]) (v := ?v4_1) rfl (by kernel_rfl) (by kernel_rfl) (by kernel_rfl) (by kernel_rfl) (fun _ _ _ h => h) (Or.inl ⟨by rfl, ?hy4_1⟩) (by assumption) ?_
    case hy4_1 => (intro w1 hSw; (try dsimp only at hSw); go_simp; try with_reducible rfl)
    simp only [List.getElem_toArray, List.getElem_cons_zero, Act.put, List.setIfInBounds_toArray, List.set_cons_zero, List.set_cons_succ]
    refine LastKit.wpAnyK_take (i := 1) (C := [1, 21]) (v := ?v4_2) rfl (by kernel_rfl) (by kernel_rfl) (by kernel_rfl) (by kernel_rfl) (fun _ _ _ h => h) (Or.inl ⟨by rfl, ?hy4_2⟩) (by assumption) ?_
    case hy4_2 => (intro w1 hSw; (try dsimp only at hSw); go_simp; try with_reducible rfl)
    simp only [List.getElem_toArray, List.getElem_cons_succ, List.getElem_cons_zero, Act.put, List.setIfInBounds_toArray, List.set_cons_zero, List.set_cons_succ]
    refine LastKit.wpAnyK_take (i := 2) (C := [2, 21]) (v := ?v4_3) rfl (by kernel_rfl) (by kernel_rfl) (by kernel_rfl) (by kernel_rfl) (fun _ _ _ h => h) (Or.inl ⟨by rfl, ?hy4_3⟩) (by assumption) ?_
    case hy4_3 => (intro w1 hSw; (try dsimp only at hSw); go_simp; try with_reducible rfl)
    simp only [List.getElem_toArray, List.getElem_cons_succ, List.getElem_cons_zero, Act.put, List.setIfInBounds_toArray, List.set_cons_zero, List.set_cons_succ]
    refine LastKit.wpAnyK_take (i := 3) (C := [3, 21]) (v := ?v4_4) rfl (by kernel_rfl) (by kernel_rfl) (by kernel_rfl) (by kernel_rfl) (fun _ _ _ h => h) (Or.inl ⟨by rfl, ?hy4_4⟩) (by assumption) ?_
    case hy4_4 => (intro w1 hSw; (try dsimp only at hSw); go_simp; try with_reducible rfl)
    simp only [List.getElem_toArray, List.getElem_cons_succ, List.getElem_cons_zero, Act.put, List.setIfInBounds_toArray, List.set_cons_zero, List.set_cons_succ]
    refine LastKit.wpAnyK_take (i := 4) (C := [4, 21]) (v := ?v4_5) rfl (by kernel_rfl) (by kernel_rfl) (by kernel_rfl) (by kernel_rfl) (fun _ _ _ h => h) (Or.inl ⟨by rfl, ?hy4_5⟩) (by assumption) ?_
    case hy4_5 => (intro w1 hSw; (try dsimp only at hSw); go_simp; try with_reducible rfl)
    simp only [List.getElem_toArray, List.getElem_cons_succ, List.getElem_cons_zero, Act.put, List.setIfInBounds_toArray, List.set_cons_zero, List.set_cons_succ]
    refine LastKit.wpAnyK_take (i := 5) (C := [5, 21]) (v := ?v4_6) rfl (by kernel_rfl) (by kernel_rfl) (by kernel_rfl) (by kernel_rfl) (fun _ _ _ h => h) (Or.inl ⟨by rfl, ?hy4_6⟩) (by assumption) ?_
    case hy4_6 => (intro w1 hSw; (try dsimp only at hSw); go_simp; try with_reducible rfl)
    simp only [List.getElem_toArray, List.getElem_cons_succ, List.getElem_cons_zero, Act.put, List.setIfInBounds_toArray, List.set_cons_zero, List.set_cons_succ]
    refine LastKit.wpAnyK_take (i := 6) (C := [6, 21]) (v := ?v4_7) rfl (by kernel_rfl) (by kernel_rfl) (by kernel_rfl) (by kernel_rfl) (fun _ _ _ h => h) (Or.inl ⟨by rfl, ?hy4_7⟩) (by assumption) ?_
    case hy4_7 => (intro w1 hSw; (try dsimp only at hSw); go_simp; try with_reducible rfl)
    simp only [List.getElem_toArray, List.getElem_cons_succ, List.getElem_cons_zero, Act.put, List.setIfInBounds_toArray, List.set_cons_zero, List.set_cons_succ]
    refine LastKit.wpAnyK_take (i := 7) (C := [7, 21]) (v := ?v4_8) rfl (by kernel_rfl) (by kernel_rfl) (by kernel_rfl) (by kernel_rfl) (fun _ _ _ h => h) (Or.inl ⟨by rfl, ?hy4_8⟩) (by assumption) ?_
    case hy4_8 => (intro w1 hSw; (try dsimp only at hSw); go_simp; try with_reducible rfl)
    simp only [List.getElem_toArray, List.getElem_cons_succ, List.getElem_cons_zero, Act.put, List.setIfInBounds_toArray, List.set_cons_zero, List.set_cons_succ]
    refine LastKit.wpAnyK_take (i := 8) (C := [8, 21]) (v := ?v4_9) rfl (by kernel_rfl) (by kernel_rfl) (by kernel_rfl) (by kernel_rfl) (fun _ _ _ h => h) (Or.inl ⟨by rfl, ?hy4_9⟩) (by assumption) ?_
    case hy4_9 => (intro w1 hSw; (try dsimp only at hSw); go_simp; try with_reducible rfl)
    simp only [List.getElem_toArray, List.getElem_cons_succ, List.getElem_cons_zero, Act.put, List.setIfInBounds_toArray, List.set_cons_zero, List.set_cons_succ]
    refine LastKit.wpAnyK_take (i := 9) (C := [9, 21]) (v := ?v4_10) rfl (by kernel_rfl) (by kernel_rfl) (by kernel_rfl) (by kernel_rfl) (fun _ _ _ h => h) (Or.inl ⟨by rfl, ?hy4_10⟩) (by assumption) ?_
    case hy4_10 => (intro w1 hSw; (try dsimp only at hSw); go_simp; try with_reducible rfl)
    simp only [List.getElem_toArray, List.getElem_cons_succ, List.getElem_cons_zero, Act.put, List.setIfInBounds_toArray, List.set_cons_zero, List.set_cons_succ]
    refine LastKit.wpAnyK_take (i := 10) (C := [10, 21]) (v := ?v4_11) rfl (by kernel_rfl) (by kernel_rfl) (by kernel_rfl) (by kernel_rfl) (fun _ _ _ h => h) (Or.inl ⟨by rfl, ?hy4_11⟩) (by assumption) ?_
    case hy4_11 => (intro w1 hSw; (try dsimp only at hSw); go_simp; try with_reducible rfl)
    simp only [List.getElem_toArray, List.getElem_cons_succ, List.getElem_cons_zero, Act.put, List.setIfInBounds_toArray, List.set_cons_zero, List.set_cons_succ]
    refine LastKit.wpAnyK_take (i := 11) (C := [11, 21]) (v := ?v4_12) rfl (by kernel_rfl) (by kernel_rfl) (by kernel_rfl) (by kernel_rfl) (fun _ _ _ h => h) (Or.inl ⟨by rfl, ?hy4_12⟩) (by assumption) ?_
    case hy4_12 => (intro w1 hSw; (try dsimp only at hSw); go_simp; try with_reducible rfl)
    simp only [List.getElem_toArray, List.getElem_cons_succ, List.getElem_cons_zero, Act.put, List.setIfInBounds_toArray, List.set_cons_zero, List.set_cons_succ]
    refine LastKit.wpAnyK_take (i := 12) (C := [12, 21]) (v := ?v4_13) rfl (by kernel_rfl) (by kernel_rfl) (by kernel_rfl) (by kernel_rfl) (fun _ _ _ h => h) (Or.inl ⟨by rfl, ?hy4_13⟩) (by assumption) ?_
    case hy4_13 => (intro w1 hSw; (try dsimp only at hSw); go_simp; try with_reducible rfl)
    simp only [List.getElem_toArray, List.getElem_cons_succ, List.getElem_cons_zero, Act.put, List.setIfInBounds_toArray, List.set_cons_zero, List.set_cons_succ]
    refine LastKit.wpAnyK_take (i := 13) (C := [13, 21]) (v := ?v4_14) rfl (by kernel_rfl) (by kernel_rfl) (by kernel_rfl) (by kernel_rfl) (fun _ _ _ h => h) (Or.inl ⟨by rfl, ?hy4_14⟩) (by assumption) ?_
    case hy4_14 => (intro w1 hSw; (try dsimp only at hSw); go_simp; try with_reducible rfl)
    simp only [List.getElem_toArray, List.getElem_cons_succ, List.getElem_cons_zero, Act.put, List.setIfInBounds_toArray, List.set_cons_zero, List.set_cons_succ]
    refine LastKit.wpAnyK_take (i := 14) (C := [14, 21]) (v := ?v4_15) rfl (by kernel_rfl) (by kernel_rfl) (by kernel_rfl) (by kernel_rfl) (fun _ _ _ h => h) (Or.inl ⟨by rfl, ?hy4_15⟩) (by assumption) ?_
    case hy4_15 => (intro w1 hSw; (try dsimp only at hSw); go_simp; try with_reducible rfl)
    simp only [List.getElem_toArray, List.getElem_cons_succ, List.getElem_cons_zero, Act.put, List.setIfInBounds_toArray, List.set_cons_zero, List.set_cons_succ]
    refine LastKit.wpAnyK_take (i := 15) (C := [15, 21]) (v := ?v4_16) rfl (by kernel_rfl) (by kernel_rfl) (by kernel_rfl) (by kernel_rfl) (fun _ _ _ h => h) (Or.inl ⟨by rfl, ?hy4_16⟩) (by assumption) ?_
    case hy4_16 => (intro w1 hSw; (try dsimp only at hSw); go_simp; try with_reducible rfl)
    simp only [List.getElem_toArray, List.getElem_cons_succ, List.getElem_cons_zero, Act.put, List.setIfInBounds_toArray, List.set_cons_zero, List.set_cons_succ]
    refine LastKit.wpAnyK_take (i := 16) (C := [16, 21]) (v := ?v4_17) rfl (by kernel_rfl) (by kernel_rfl) (by kernel_rfl) (by kernel_rfl) (fun _ _ _ h => h) (Or.inl ⟨by rfl, ?hy4_17⟩) (by assumption) ?_
    case hy4_17 => (intro w1 hSw; (try dsimp only at hSw); go_simp; try with_reducible rfl)
    simp only [List.getElem_toArray, List.getElem_cons_succ, List.getElem_cons_zero, Act.put, List.setIfInBounds_toArray, List.set_cons_zero, List.set_cons_succ]
    refine LastKit.wpAnyK_ready (rs := [17]) (by kernel_rfl) (by simp) ?_
    refine (LastKit.AllReadyK.cons rfl (fun K hK => ?_) LastKit.AllReadyK.nil)
    refine step_buildZ _ rfl rfl ?_
    refine hK.out _ _ (hSB.out _ (Below.heap_alloc _ _ _ (by simp; omega)) (Below.heap_alloc _ _ _ (by simp; omega)) (Below.heap_alloc _ _ _ (by simp; omega))) (fun hHeld => ?_)
    clear hK K
    simp only [List.getElem_toArray, List.getElem_cons_succ, List.getElem_cons_zero, Act.put, List.setIfInBounds_toArray, List.set_cons_zero, List.set_cons_succ, World.size_alloc, World.size_drew]
    refine LastKit.wpAnyK_ready (rs := [18]) (by kernel_rfl) (by simp) ?_
    refine (LastKit.AllReadyK.cons rfl (fun K hK => ?_) LastKit.AllReadyK.nil)
    refine step_append_lies _ rfl _ _ 69 rfl base 71 i0 _ 5 64 Tryz.underlying69 hi hz0 hz1 hz2 rfl (by decide) (.slice A n c) n (flatT qs) rfl (own_below hKq.out ((Below.refl wq.heap.size wq).drew.trans ((Below.refl wq.heap.size wq.drew).alloc (Nat.le_refl _) (.cells #[.int .i64 0, .string ⟨#[]⟩, .int .i64 0, .slice none 0 0, .int .i64 0] 71)))) ⟨wq.heap.size, 0, none⟩ 1 1 [.int .i64 0, .string ⟨#[]⟩, .int .i64 0, .slice none 0 0, .int .i64 0] rfl rfl (World.news_of_block (heap_alloc_new wq.drew (.cells #[.int .i64 0, .string ⟨#[]⟩, .int .i64 0, .slice none 0 0, .int .i64 0] 71))) ?a0 (by decide) ?a1 ?a2 ?a3 _ rfl ?_
    case a0 => (intro u hu; simp only [List.mem_cons, List.not_mem_nil, or_false] at hu; rcases hu with rfl | rfl | rfl | rfl | rfl <;> rfl)
    case a1 => (unfold maxLen; omega)
    case a2 => omega
    case a3 => (simp; omega)
    intro g5 cap5 w5 hown5 hgrow5 hat5 hlt5
    have hkeep : ∀ b, b < wq.heap.size → (∀ ad, A = some ad → ad.block ≠ b) → w5.heap[b]? = wq.heap[b]? := fun b hb hA => (hgrow5.block b (by simp; omega) (fun e => by cases A with | none => simp [Value.ownBlock] at e | some ad => exact hA ad rfl (by simpa [Value.ownBlock] using e.symm))).trans (Below.heap_alloc wq.drew _ b hb)
    have hk1 := hkeep g (by omega) (fun ad e => (hAg ad e).1)
    have hk2 := hkeep gO (by omega) (fun ad e => (hAg ad e).2)
    have hk3 := hkeep w.heap.size (by omega) (fun ad e e2 => by have := (hKl.out ad e); omega)
    have HS5 := Lib.hid (And.intro hk1 (And.intro hk2 hk3))
    have HA5 : Hid (Aside (fun b => ∃ ad, A = some ad ∧ ad.block = b) w w5) := Lib.hid (((Aside.of_below HBQ.out).drew.alloc _).grown hgrow5 (fun b e _ => by cases A with | none => simp [Value.ownBlock] at e | some ad => exact ⟨ad, rfl, by simpa [Value.ownBlock] using e⟩))
    have HG5 : Hid ((∃ ad, A = some ad ∧ ad.block = g5) ∨ w.heap.size ≤ g5) := Lib.hid (hat5.elim (fun e => Or.inl (by cases A with | none => simp [Value.ownBlock] at e | some ad => exact ⟨ad, rfl, by simpa [Value.ownBlock] using e⟩)) (fun e => Or.inr (by simp at e; omega)))
    have HO5 := Lib.hid hown5
    have HL5 := Lib.hid hlt5
    have hgO5 : Hid (w5.heap[gO]? = some (.cells cur 71 (0, 0))) := Lib.hid (hk2.trans (hOq.out.trans HO.out))
    have hne5 : g5 ≠ gO := HG5.out.elim (fun h => h.elim fun ad e2 => by have := (hAg ad e2.1).2; omega) (fun h => by omega)
    have hfz : w5.frozen? ⟨gO, m * 5 + 3, none⟩ = false := (World.frozen?_of_block hk2).trans hfO.out
    have hcO : w5.cell? ⟨gO, m * 5 + 3, none⟩ = some (.slice A n c) := (World.cell?_of_block hk2).trans hcO0.out
    clear hown5 hgrow5 hat5 hlt5 hkeep
    refine hK.out _ _ (hSB.out _ hk1 hk2 hk3) (fun hHeld => ?_)
    clear hK K hk1 hk2 hk3
    simp only [List.getElem_toArray, List.getElem_cons_succ, List.getElem_cons_zero, Act.put, List.setIfInBounds_toArray, List.set_cons_zero, List.set_cons_succ]
    refine LastKit.wpAnyK_take (i := 19) (C := [19, 20, 21]) (v := ?v4_18) rfl (by kernel_rfl) (by kernel_rfl) (by kernel_rfl) (by kernel_rfl) (fun _ _ _ h => h) (Or.inl ⟨by rfl, ?hy4_18⟩) (by assumption) ?_
    case hy4_18 => (intro w1 hSw; (try dsimp only at hSw); go_simp; try with_reducible rfl)
    simp only [List.getElem_toArray, List.getElem_cons_succ, List.getElem_cons_zero, Act.put, List.setIfInBounds_toArray, List.set_cons_zero, List.set_cons_succ]
    refine LastKit.wpAnyK_take (i := 20) (C := [20, 21]) (v := ?v4_19) rfl (by kernel_rfl) (by kernel_rfl) (by kernel_rfl) (by kernel_rfl) (fun _ _ _ h => h) (Or.inl ⟨by rfl, ?hy4_19⟩) (by assumption) ?_
    case hy4_19 => (intro w1 hSw; (try dsimp only at hSw); go_simp; try with_reducible rfl)
    simp only [List.getElem_toArray, List.getElem_cons_succ, List.getElem_cons_zero, Act.put, List.setIfInBounds_toArray, List.set_cons_zero, List.set_cons_succ]
    refine LastKit.wpAnyK_ready (rs := [21]) (by kernel_rfl) (by simp) ?_
    refine LastKit.AllReadyK.last rfl (fun K hK => ?_)
    simp only [List.getElem_toArray, List.getElem_cons_succ, List.getElem_cons_zero]
    go_simp
    refine hK.out _ _ ?_
    clear hK K
    refine LastKit.wpAnyK_done (by kernel_rfl) ?_ _
    have hFin := Lib.hid (addEff_true (x := ((.mk k x xn l a : T), A0, c0)) (o := m * 5 + 3) HA5.out HG5.out HO5.out hgO5.out hne5 (own_len hKq.out))
    simp only [T.k, T.s, T.n, T.kids, T.at_] at hFin
    rw [← HN0.out] at hFin
    have hq := own_len hKq.out
    have hown6 := own_sameS HO5.out (Below.heap_setCell w5 ⟨gO, m * 5 + 3, none⟩ (.slice (some ⟨g5, 0, none⟩) (n + 1) cap5) g5 hne5)
    have hzc : ∀ i, i < 5 → (flatT qs ++ [.int .i64 0, .string ⟨#[]⟩, .int .i64 0, .slice none 0 0, .int .i64 0])[n * 5 + i]? = ([.int .i64 0, .string ⟨#[]⟩, .int .i64 0, .slice none 0 0, .int .i64 0] : List Value)[i]? := fun i hi => by
      rw [List.getElem?_append_right (by rw [flatT_len, hq]; omega), flatT_len, hq, show n * 5 + i - n * 5 = i by omega]
    have hf6 := fun j => hown6.frozenAt j
    have d0 := (hown6.cellAt (n * 5) (by omega)).trans (hzc 0 (by decide))
    have d1 := (hown6.cellAt (n * 5 + 1) (by omega)).trans (hzc 1 (by decide))
    have d2 := (hown6.cellAt (n * 5 + 2) (by omega)).trans (hzc 2 (by decide))
    have d3 := (hown6.cellAt (n * 5 + 3) (by omega)).trans (hzc 3 (by decide))
    have d4 := (hown6.cellAt (n * 5 + 4) (by omega)).trans (hzc 4 (by decide))
    obtain ⟨w6, ew6⟩ : ∃ w6, w6 = w5.setCell ⟨gO, m * 5 + 3, none⟩ (.slice (some ⟨g5, 0, none⟩) (n + 1) cap5) := ⟨_, rfl⟩
    rw [← ew6] at hFin d0 d1 d2 d3 d4 hf6 ⊢
    have r0 := hf6 (n * 5)
    have r1 := hf6 (n * 5 + 1)
    have r2 := hf6 (n * 5 + 2)
    have r3 := hf6 (n * 5 + 3)
    have r4 := hf6 (n * 5 + 4)
    simp only [List.getElem?_cons_zero, List.getElem?_cons_succ] at d0 d1 d2 d3 d4
    have en : IntKind.i64.wrap (n : Int) = (n : Int) := by unfold IntKind.wrap; simp [IntKind.bits, IntKind.signed]; omega
    have eln : (n : Int) < (n : Int) + 1 := by omega
    clear HA5 HG5 HO5 HL5 hgO5 hfz hcO hSB HS5 ew6 hown6 hzc hf6 hq
    go_wp2_with fail
    first
      | refine bodyPost_end (results_none rfl _ _ _) rfl ?_
      | refine bodyPost_ret (results_none rfl _ _ _) rfl ?_
    exact ⟨rfl, hFin.out⟩
end Go.Proofs.YtjhkihkiebnpaaaGreatDoor
/-
  Package sexp's reader: a whole tree is put away.
-/
set_option linter.unusedVariables false
set_option linter.unusedSimpArgs false
namespace Go.Proofs.YtjhkihkiebnpaaaGreatDoor
open Go.RowKit
theorem own_blk_of {A : Option Addr} {n c b : Nat} (h : ∀ ad : Addr, A = some ad → ad.block ≠ b) (e : some b = (Value.slice A n c).ownBlock) : False := by
  cases A with
  | none => simp [Value.ownBlock] at e
  | some ad => exact h ad rfl (by simpa [Value.ownBlock] using e.symm)
theorem own_blk_some {A : Option Addr} {n c b : Nat} (e : (Value.slice A n c).ownBlock = some b) : ∃ ad : Addr, A = some ad ∧ ad.block = b := by
  cases A with
  | none => simp [Value.ownBlock] at e
  | some ad => exact ⟨ad, rfl, by simpa [Value.ownBlock] using e⟩
set_option linter.unusedSimpArgs false in
set_option maxRecDepth 100000 in
set_option maxHeartbeats 8000000 in
theorem add_done (g cB base : Nat) (B : Option Addr) (s : ByteArray) (k xn a : Int) (x : ByteArray) (l : List T) (A0 : Option Addr) (n0 c0 : Nat) (w : World)
    (hg : w.heap[g]? = some (.cells #[.string s, .slice B 0 cB, .slice none 0 0] 102 (0, 0))) (hbase : base ≤ w.heap.size) (hn0 : n0 = l.length) :
    Calls Tryz.prog 54 #[.pointer (some ⟨g, 0, none⟩), .agg #[.int .i64 k, .string x, .int .i64 xn, .slice A0 n0 c0, .int .i64 a]] w fun e w' => e = .returned (.tuple #[]) ∧ PutEff 102 w w' base g 2 #[.string s, .slice B 0 cB, .slice none 0 0] none 0 [] ((.mk k x xn l a : T), A0, c0) := by
  have g1 : w.cell? ⟨g, 1, none⟩ = some (.slice B 0 cB) := by simp [World.cell?, hg]
  have hgl : g < w.heap.size := (Array.getElem?_eq_some_iff.1 hg).1
  obtain ⟨w1, ew1⟩ : ∃ w1, w1 = w.alloc (.cells #[.int .i64 k, .string x, .int .i64 xn, .slice A0 n0 c0, .int .i64 a] 71) := ⟨_, rfl⟩
  have hb1 : Below w.heap.size w w1 := by rw [ew1]; exact (Below.refl _ _).alloc (Nat.le_refl _) _
  have hs1 : w1.heap.size = w.heap.size + 1 := by rw [ew1]; simp
  have hx1 : w1.heap[w.heap.size]? = some (.cells #[.int .i64 k, .string x, .int .i64 xn, .slice A0 n0 c0, .int .i64 a] 71 (0, 0)) := by rw [ew1]; exact heap_alloc_new w _
  have hgq : w1.heap[g]? = some (.cells #[.string s, .slice B 0 cB, .slice none 0 0] 102 (0, 0)) := (hb1.block g hgl).trans hg
  have hq2 : w1.cell? ⟨g, 2, none⟩ = some (.slice none 0 0) := by simp [World.cell?, hgq]
  obtain ⟨⟨x0, x1, x2, x3, x4⟩, _, _, _, _, _⟩ := cell5 hx1
  have hSB : Hid (∀ w' : World, w'.heap[g]? = w1.heap[g]? → w'.heap[w.heap.size]? = w1.heap[w.heap.size]? → w'.cell? ⟨g, 2, none⟩ = some (.slice none 0 0) ∧ w'.cell? ⟨w.heap.size, 0, none⟩ = some (.int .i64 k) ∧ w'.cell? ⟨w.heap.size, 1, none⟩ = some (.string x) ∧ w'.cell? ⟨w.heap.size, 2, none⟩ = some (.int .i64 xn) ∧ w'.cell? ⟨w.heap.size, 3, none⟩ = some (.slice A0 n0 c0) ∧ w'.cell? ⟨w.heap.size, 4, none⟩ = some (.int .i64 a)) := Lib.hid (fun w' h1 h3 => ⟨(World.cell?_of_block h1).trans hq2, (World.cell?_of_block h3).trans x0, (World.cell?_of_block h3).trans x1, (World.cell?_of_block h3).trans x2, (World.cell?_of_block h3).trans x3, (World.cell?_of_block h3).trans x4⟩)
  have HW1 := Lib.hid ew1
  have HBQ := Lib.hid hb1
  have HGQ := Lib.hid hgq
  have HN0 := Lib.hid hn0
  have HKQ : Hid (w1.ownsRow base 71 5 (.slice none 0 0) 0 (flatT [])) := Lib.hid ⟨rfl, .inl ⟨rfl, rfl⟩⟩
  have hAg : ∀ ad : Addr, (none : Option Addr) = some ad → ad.block ≠ g := fun ad e => by cases e
  obtain ⟨i0, hi, hz0, hz1, hz2⟩ := info_parts tree_info
  clear hg ew1 hx1 hb1 hn0 hgq hq2 x0 x1 x2 x3 x4
  go_enter Tryz.func54, Tryz.ntmps54
  go_upto_region 7 with (fail)
  rw [← HW1.out]
  refine LateKit.wp_region_last (fun w' => w'.cell? ⟨g, 2, none⟩ = some (.slice none 0 0) ∧ w'.cell? ⟨w.heap.size, 0, none⟩ = some (.int .i64 k) ∧ w'.cell? ⟨w.heap.size, 1, none⟩ = some (.string x) ∧ w'.cell? ⟨w.heap.size, 2, none⟩ = some (.int .i64 xn) ∧ w'.cell? ⟨w.heap.size, 3, none⟩ = some (.slice A0 n0 c0) ∧ w'.cell? ⟨w.heap.size, 4, none⟩ = some (.int .i64 a)) [8, 9, 10, 11, 12] (by kernel_rfl) (hSB.out _ rfl rfl) (fun hHeld => ?_)
  refine LateKit.wpAnyK_take (i := 0) (C := [0, 8, 9, 10, 11, 12]) (v := ?v7_1) rfl (by kernel_rfl) (by kernel_rfl) (by kernel_rfl) (by kernel_rfl) (fun _ _ _ h => h) (Or.inl ⟨by rfl, ?hy7_1⟩) (by assumption) ?_
  case hy7_1 => (intro w1 hSw; (try dsimp only at hSw); go_simp; try with_reducible rfl)
  simp only [List.getElem_toArray, List.getElem_cons_zero, Act.put, List.setIfInBounds_toArray, List.set_cons_zero, List.set_cons_succ]
  refine LateKit.wpAnyK_take (i := 1) (C := [1, 8, 9, 10, 11, 12]) (v := ?v7_2) rfl (by kernel_rfl) (by kernel_rfl) (by kernel_rfl) (by kernel_rfl) (fun _ _ _ h => h) (Or.inl ⟨by rfl, ?hy7_2⟩) (by assumption) ?_
  case hy7_2 => (intro w1 hSw; (try dsimp only at hSw); go_simp; try with_reducible rfl)
  simp only [List.getElem_toArray, List.getElem_cons_succ, List.getElem_cons_zero, Act.put, List.setIfInBounds_toArray, List.set_cons_zero, List.set_cons_succ]
  refine LateKit.wpAnyK_take (i := 2) (C := [2, 8, 9, 10, 11, 12]) (v := ?v7_3) rfl (by kernel_rfl) (by kernel_rfl) (by kernel_rfl) (by kernel_rfl) (fun _ _ _ h => h) (Or.inl ⟨by rfl, ?hy7_3⟩) (by assumption) ?_
  case hy7_3 => (intro w1 hSw; (try dsimp only at hSw); go_simp; try with_reducible rfl)
  simp only [List.getElem_toArray, List.getElem_cons_succ, List.getElem_cons_zero, Act.put, List.setIfInBounds_toArray, List.set_cons_zero, List.set_cons_succ]
  refine LateKit.wpAnyK_take (i := 3) (C := [3, 8, 9, 10, 11, 12]) (v := ?v7_4) rfl (by kernel_rfl) (by kernel_rfl) (by kernel_rfl) (by kernel_rfl) (fun _ _ _ h => h) (Or.inl ⟨by rfl, ?hy7_4⟩) (by assumption) ?_
  case hy7_4 => (intro w1 hSw; (try dsimp only at hSw); go_simp; try with_reducible rfl)
  simp only [List.getElem_toArray, List.getElem_cons_succ, List.getElem_cons_zero, Act.put, List.setIfInBounds_toArray, List.set_cons_zero, List.set_cons_succ]
  refine LateKit.wpAnyK_take (i := 4) (C := [4, 8, 9, 10, 11, 12]) (v := ?v7_5) rfl (by kernel_rfl) (by kernel_rfl) (by kernel_rfl) (by kernel_rfl) (fun _ _ _ h => h) (Or.inl ⟨by rfl, ?hy7_5⟩) (by assumption) ?_
  case hy7_5 => (intro w1 hSw; (try dsimp only at hSw); go_simp; try with_reducible rfl)
  simp only [List.getElem_toArray, List.getElem_cons_succ, List.getElem_cons_zero, Act.put, List.setIfInBounds_toArray, List.set_cons_zero, List.set_cons_succ]
  refine LateKit.wpAnyK_take (i := 5) (C := [5, 8, 9, 10, 11, 12]) (v := ?v7_6) rfl (by kernel_rfl) (by kernel_rfl) (by kernel_rfl) (by kernel_rfl) (fun _ _ _ h => h) (Or.inl ⟨by rfl, ?hy7_6⟩) (by assumption) ?_
  case hy7_6 => (intro w1 hSw; (try dsimp only at hSw); go_simp; try with_reducible rfl)
  simp only [List.getElem_toArray, List.getElem_cons_succ, List.getElem_cons_zero, Act.put, List.setIfInBounds_toArray, List.set_cons_zero, List.set_cons_succ]
  refine LateKit.wpAnyK_ready (rs := [6]) (by kernel_rfl) (by simp) ?_
  refine (LateKit.AllReadyK.cons rfl (fun K hK => ?_) LateKit.AllReadyK.nil)
  refine step_buildZ _ rfl rfl ?_
  refine hK.out _ _ (hSB.out _ (Below.heap_alloc _ _ _ (by simp; omega)) (Below.heap_alloc _ _ _ (by simp; omega))) (fun hHeld => ?_)
  clear hK K
  simp only [List.getElem_toArray, List.getElem_cons_succ, List.getElem_cons_zero, Act.put, List.setIfInBounds_toArray, List.set_cons_zero, List.set_cons_succ, World.size_alloc, World.size_drew]
  refine LateKit.wpAnyK_ready (rs := [7]) (by kernel_rfl) (by simp) ?_
  refine (LateKit.AllReadyK.cons rfl (fun K hK => ?_) LateKit.AllReadyK.nil)
  refine step_append_lies _ rfl _ _ 69 rfl base 71 i0 _ 5 64 Tryz.underlying69 hi hz0 hz1 hz2 rfl (by decide) (.slice none 0 0) 0 (flatT []) rfl (own_below HKQ.out ((Below.refl w1.heap.size w1).drew.trans ((Below.refl w1.heap.size w1.drew).alloc (Nat.le_refl _) (.cells #[.int .i64 0, .string ⟨#[]⟩, .int .i64 0, .slice none 0 0, .int .i64 0] 71)))) ⟨w1.heap.size, 0, none⟩ 1 1 [.int .i64 0, .string ⟨#[]⟩, .int .i64 0, .slice none 0 0, .int .i64 0] rfl rfl (World.news_of_block (heap_alloc_new w1.drew (.cells #[.int .i64 0, .string ⟨#[]⟩, .int .i64 0, .slice none 0 0, .int .i64 0] 71))) ?a0 (by decide) ?a1 ?a2 ?a3 _ rfl ?_
  case a0 => (intro u hu; simp only [List.mem_cons, List.not_mem_nil, or_false] at hu; rcases hu with rfl | rfl | rfl | rfl | rfl <;> rfl)
  case a1 => (unfold maxLen; omega)
  case a2 => omega
  case a3 => (simp; omega)
  intro g5 cap5 w5 hown5 hgrow5 hat5 hlt5
  have hkeep : ∀ b, b < w1.heap.size → (∀ ad : Addr, (none : Option Addr) = some ad → ad.block ≠ b) → w5.heap[b]? = w1.heap[b]? := fun b hb hA => (hgrow5.block b (by simp; omega) (fun e => own_blk_of hA e)).trans (Below.heap_alloc w1.drew _ b hb)
  have hk1 := hkeep g (by omega) (fun ad e => by cases e)
  have hk2 := hkeep w.heap.size (by omega) (fun ad e => by cases e)
  have HA5 : Hid (Aside (fun b => ∃ ad : Addr, (none : Option Addr) = some ad ∧ ad.block = b) w w5) := Lib.hid (((Aside.of_below HBQ.out).drew.alloc _).grown hgrow5 (fun b e _ => own_blk_some e))
  have HG5 : Hid ((∃ ad : Addr, (none : Option Addr) = some ad ∧ ad.block = g5) ∨ w.heap.size ≤ g5) := Lib.hid (hat5.elim (fun e => Or.inl (own_blk_some e)) (fun e => Or.inr (by simp at e; omega)))
  have hg5 : Hid (w5.heap[g]? = some (.cells #[.string s, .slice B 0 cB, .slice none 0 0] 102 (0, 0))) := Lib.hid (hk1.trans HGQ.out)
  have hne5 : g5 ≠ g := HG5.out.elim (fun h => h.elim fun ad e2 => by have := hAg ad e2.1; omega) (fun h => by omega)
  have HO5 := Lib.hid hown5
  have hq := own_len (n := 0) (qs := []) HKQ.out
  have hzc : ∀ i, i < 5 → (flatT [] ++ [.int .i64 0, .string ⟨#[]⟩, .int .i64 0, .slice none 0 0, .int .i64 0])[0 * 5 + i]? = ([.int .i64 0, .string ⟨#[]⟩, .int .i64 0, .slice none 0 0, .int .i64 0] : List Value)[i]? := fun i hi => by rw [List.getElem?_append_right (by rw [flatT_len, hq]; omega), flatT_len, hq, show 0 * 5 + i - 0 * 5 = i by omega]
  have hrc : w5.cell? ⟨g, 2, none⟩ = some (.slice none 0 0) := by simp [World.cell?, hg5.out]
  have hrf : w5.frozen? ⟨g, 2, none⟩ = false := by simp [World.frozen?, hg5.out]
  have d0 := (hown5.cellAt (0 * 5) (by omega)).trans (hzc 0 (by decide))
  have r0 := hown5.frozenAt (0 * 5)
  have d1 := (hown5.cellAt (0 * 5 + 1) (by omega)).trans (hzc 1 (by decide))
  have r1 := hown5.frozenAt (0 * 5 + 1)
  have d2 := (hown5.cellAt (0 * 5 + 2) (by omega)).trans (hzc 2 (by decide))
  have r2 := hown5.frozenAt (0 * 5 + 2)
  have d3 := (hown5.cellAt (0 * 5 + 3) (by omega)).trans (hzc 3 (by decide))
  have r3 := hown5.frozenAt (0 * 5 + 3)
  have d4 := (hown5.cellAt (0 * 5 + 4) (by omega)).trans (hzc 4 (by decide))
  have r4 := hown5.frozenAt (0 * 5 + 4)
  simp only [List.getElem?_cons_zero, List.getElem?_cons_succ] at d0 d1 d2 d3 d4
  have dd0 : (w5.setCell ⟨g, 2, none⟩ (.slice (some ⟨g5, 0, none⟩) (0 + 1) cap5)).cell? ⟨g5, 0 * 5, none⟩ = _ := (World.cell?_of_block (Below.heap_setCell w5 ⟨g, 2, none⟩ (.slice (some ⟨g5, 0, none⟩) (0 + 1) cap5) g5 hne5)).trans d0
  have rr0 : (w5.setCell ⟨g, 2, none⟩ (.slice (some ⟨g5, 0, none⟩) (0 + 1) cap5)).frozen? ⟨g5, 0 * 5, none⟩ = false := (World.frozen?_of_block (Below.heap_setCell w5 ⟨g, 2, none⟩ (.slice (some ⟨g5, 0, none⟩) (0 + 1) cap5) g5 hne5)).trans r0
  have dd1 : (w5.setCell ⟨g, 2, none⟩ (.slice (some ⟨g5, 0, none⟩) (0 + 1) cap5)).cell? ⟨g5, 0 * 5 + 1, none⟩ = _ := (World.cell?_of_block (Below.heap_setCell w5 ⟨g, 2, none⟩ (.slice (some ⟨g5, 0, none⟩) (0 + 1) cap5) g5 hne5)).trans d1
  have rr1 : (w5.setCell ⟨g, 2, none⟩ (.slice (some ⟨g5, 0, none⟩) (0 + 1) cap5)).frozen? ⟨g5, 0 * 5 + 1, none⟩ = false := (World.frozen?_of_block (Below.heap_setCell w5 ⟨g, 2, none⟩ (.slice (some ⟨g5, 0, none⟩) (0 + 1) cap5) g5 hne5)).trans r1
  have dd2 : (w5.setCell ⟨g, 2, none⟩ (.slice (some ⟨g5, 0, none⟩) (0 + 1) cap5)).cell? ⟨g5, 0 * 5 + 2, none⟩ = _ := (World.cell?_of_block (Below.heap_setCell w5 ⟨g, 2, none⟩ (.slice (some ⟨g5, 0, none⟩) (0 + 1) cap5) g5 hne5)).trans d2
  have rr2 : (w5.setCell ⟨g, 2, none⟩ (.slice (some ⟨g5, 0, none⟩) (0 + 1) cap5)).frozen? ⟨g5, 0 * 5 + 2, none⟩ = false := (World.frozen?_of_block (Below.heap_setCell w5 ⟨g, 2, none⟩ (.slice (some ⟨g5, 0, none⟩) (0 + 1) cap5) g5 hne5)).trans r2
  have dd3 : (w5.setCell ⟨g, 2, none⟩ (.slice (some ⟨g5, 0, none⟩) (0 + 1) cap5)).cell? ⟨g5, 0 * 5 + 3, none⟩ = _ := (World.cell?_of_block (Below.heap_setCell w5 ⟨g, 2, none⟩ (.slice (some ⟨g5, 0, none⟩) (0 + 1) cap5) g5 hne5)).trans d3
  have rr3 : (w5.setCell ⟨g, 2, none⟩ (.slice (some ⟨g5, 0, none⟩) (0 + 1) cap5)).frozen? ⟨g5, 0 * 5 + 3, none⟩ = false := (World.frozen?_of_block (Below.heap_setCell w5 ⟨g, 2, none⟩ (.slice (some ⟨g5, 0, none⟩) (0 + 1) cap5) g5 hne5)).trans r3
  have dd4 : (w5.setCell ⟨g, 2, none⟩ (.slice (some ⟨g5, 0, none⟩) (0 + 1) cap5)).cell? ⟨g5, 0 * 5 + 4, none⟩ = _ := (World.cell?_of_block (Below.heap_setCell w5 ⟨g, 2, none⟩ (.slice (some ⟨g5, 0, none⟩) (0 + 1) cap5) g5 hne5)).trans d4
  have rr4 : (w5.setCell ⟨g, 2, none⟩ (.slice (some ⟨g5, 0, none⟩) (0 + 1) cap5)).frozen? ⟨g5, 0 * 5 + 4, none⟩ = false := (World.frozen?_of_block (Below.heap_setCell w5 ⟨g, 2, none⟩ (.slice (some ⟨g5, 0, none⟩) (0 + 1) cap5) g5 hne5)).trans r4
  have hpg : (((((w5.setCell ⟨g5, 0 * 5, none⟩ (.int .i64 k)).setCell ⟨g5, 0 * 5 + 1, none⟩ (.string x)).setCell ⟨g5, 0 * 5 + 2, none⟩ (.int .i64 xn)).setCell ⟨g5, 0 * 5 + 3, none⟩ (.slice A0 n0 c0)).setCell ⟨g5, 0 * 5 + 4, none⟩ (.int .i64 a)).heap[g]? = w5.heap[g]? := (Below.heap_setCell _ ⟨g5, 0 * 5 + 4, none⟩ _ g (Ne.symm hne5)).trans ((Below.heap_setCell _ ⟨g5, 0 * 5 + 3, none⟩ _ g (Ne.symm hne5)).trans ((Below.heap_setCell _ ⟨g5, 0 * 5 + 2, none⟩ _ g (Ne.symm hne5)).trans ((Below.heap_setCell _ ⟨g5, 0 * 5 + 1, none⟩ _ g (Ne.symm hne5)).trans (Below.heap_setCell _ ⟨g5, 0 * 5, none⟩ _ g (Ne.symm hne5)))))
  have hpc : (((((w5.setCell ⟨g5, 0 * 5, none⟩ (.int .i64 k)).setCell ⟨g5, 0 * 5 + 1, none⟩ (.string x)).setCell ⟨g5, 0 * 5 + 2, none⟩ (.int .i64 xn)).setCell ⟨g5, 0 * 5 + 3, none⟩ (.slice A0 n0 c0)).setCell ⟨g5, 0 * 5 + 4, none⟩ (.int .i64 a)).cell? ⟨g, 2, none⟩ = w5.cell? ⟨g, 2, none⟩ := World.cell?_of_block hpg
  rw [hrc] at hpc
  have hpf : (((((w5.setCell ⟨g5, 0 * 5, none⟩ (.int .i64 k)).setCell ⟨g5, 0 * 5 + 1, none⟩ (.string x)).setCell ⟨g5, 0 * 5 + 2, none⟩ (.int .i64 xn)).setCell ⟨g5, 0 * 5 + 3, none⟩ (.slice A0 n0 c0)).setCell ⟨g5, 0 * 5 + 4, none⟩ (.int .i64 a)).frozen? ⟨g, 2, none⟩ = w5.frozen? ⟨g, 2, none⟩ := World.frozen?_of_block hpg
  rw [hrf] at hpf
  have HD := Lib.hid (And.intro d0 (And.intro d1 (And.intro d2 (And.intro d3 (And.intro d4 (And.intro r0 (And.intro r1 (And.intro r2 (And.intro r3 (And.intro r4 (And.intro hpc hpf)))))))))))
  have HDD := Lib.hid (And.intro dd0 (And.intro dd1 (And.intro dd2 (And.intro dd3 (And.intro dd4 (And.intro rr0 (And.intro rr1 (And.intro rr2 (And.intro rr3 (And.intro rr4 (And.intro hrc hrf)))))))))))
  have hF1 := Lib.hid (putEff_turn (x := ((.mk k x xn l a : T), A0, c0)) (o := 2) HA5.out HG5.out HO5.out hg5.out hne5 hq)
  have hF2 := Lib.hid (addEff_true (x := ((.mk k x xn l a : T), A0, c0)) (o := 2) HA5.out HG5.out HO5.out hg5.out hne5 hq)
  simp only [T.k, T.s, T.n, T.kids, T.at_] at hF1 hF2
  rw [← HN0.out] at hF1 hF2
  clear hown5 hgrow5 hat5 hkeep hzc hpg HA5 HG5 HO5 d0 d1 d2 d3 d4 r0 r1 r2 r3 r4 dd0 dd1 dd2 dd3 dd4 rr0 rr1 rr2 rr3 rr4 hpc hpf hrc hrf
  refine hK.out _ _ (hSB.out _ hk1 hk2) (fun hHeld => ?_)
  clear hK K hk1 hk2
  simp only [List.getElem_toArray, List.getElem_cons_succ, List.getElem_cons_zero, Act.put, List.setIfInBounds_toArray, List.set_cons_zero, List.set_cons_succ]
  refine LateKit.wpAnyK_takeP (i := 8) (v := ?v7_7) (by decide) rfl (by kernel_rfl) (by kernel_rfl) (by kernel_rfl) (fun _ _ _ h => h) (Or.inl ⟨by rfl, ?hy7_7⟩) ?_
  case hy7_7 => (intro w1 hSw; go_simp; try with_reducible rfl)
  simp only [List.getElem_toArray, List.getElem_cons_succ, List.getElem_cons_zero, Act.put, List.setIfInBounds_toArray, List.set_cons_zero, List.set_cons_succ]
  refine LateKit.wpAnyK_takeP (i := 10) (v := ?v7_8) (by decide) rfl (by kernel_rfl) (by kernel_rfl) (by kernel_rfl) (fun _ _ _ h => h) (Or.inl ⟨by rfl, ?hy7_8⟩) ?_
  case hy7_8 => (intro w1 hSw; go_simp; try with_reducible rfl)
  simp only [List.getElem_toArray, List.getElem_cons_succ, List.getElem_cons_zero, Act.put, List.setIfInBounds_toArray, List.set_cons_zero, List.set_cons_succ]
  refine LateKit.wpAnyK_takeP (i := 11) (v := ?v7_9) (by decide) rfl (by kernel_rfl) (by kernel_rfl) (by kernel_rfl) (fun _ _ _ h => h) (Or.inl ⟨by rfl, ?hy7_9⟩) ?_
  case hy7_9 => (intro w1 hSw; go_simp; try with_reducible rfl)
  simp only [List.getElem_toArray, List.getElem_cons_succ, List.getElem_cons_zero, Act.put, List.setIfInBounds_toArray, List.set_cons_zero, List.set_cons_succ]
  refine LateKit.wpAnyK_ready (rs := [9, 12]) (by kernel_rfl) (by simp) ?_
  refine LateKit.AllReadyK.late (by decide) rfl (fun K hK => ?_) (LateKit.AllReadyK.late (by decide) rfl (fun K hK => ?_) LateKit.AllReadyK.nil)
  ·
    obtain ⟨d0, d1, d2, d3, d4, r0, r1, r2, r3, r4, hpc, hpf⟩ := HD.out
    clear HDD hF2 hHeld hSB
    simp only [List.getElem_toArray, List.getElem_cons_succ, List.getElem_cons_zero]
    go_simp
    refine hK.out _ _ ?_
    clear hK K
    refine LateKit.wpAnyK_ready (rs := [12]) (by kernel_rfl) (by simp) ?_
    refine LateKit.AllReadyK.late (by decide) rfl (fun K hK => ?_) LateKit.AllReadyK.nil
    simp only [List.getElem_toArray, List.getElem_cons_succ, List.getElem_cons_zero]
    go_simp
    refine hK.out _ _ ?_
    clear hK K
    refine LateKit.wpAnyK_done (by kernel_rfl) ?_ _
    have hFin := hF1
    clear d0 d1 d2 d3 d4 r0 r1 r2 r3 r4 hpc hpf
    go_wp2_with fail
    first
      | refine bodyPost_end (results_none rfl _ _ _) rfl ?_
      | refine bodyPost_ret (results_none rfl _ _ _) rfl ?_
    exact ⟨rfl, hFin.out⟩
  ·
    obtain ⟨dd0, dd1, dd2, dd3, dd4, rr0, rr1, rr2, rr3, rr4, hrc, hrf⟩ := HDD.out
    clear HD hF1 hHeld hSB
    simp only [List.getElem_toArray, List.getElem_cons_succ, List.getElem_cons_zero]
    go_simp
    refine hK.out _ _ ?_
    clear hK K
    refine LateKit.wpAnyK_ready (rs := [9]) (by kernel_rfl) (by simp) ?_
    refine LateKit.AllReadyK.late (by decide) rfl (fun K hK => ?_) LateKit.AllReadyK.nil
    simp only [List.getElem_toArray, List.getElem_cons_succ, List.getElem_cons_zero]
    go_simp
    refine hK.out _ _ ?_
    clear hK K
    refine LateKit.wpAnyK_done (by kernel_rfl) ?_ _
    have hFin := hF2
    clear dd0 dd1 dd2 dd3 dd4 rr0 rr1 rr2 rr3 rr4 hrc hrf
    go_wp2_with fail
    first
      | refine bodyPost_end (results_none rfl _ _ _) rfl ?_
      | refine bodyPost_ret (results_none rfl _ _ _) rfl ?_
    exact ⟨rfl, hFin.out⟩
end Go.Proofs.YtjhkihkiebnpaaaGreatDoor
/-
  What a reader holds: the trees that are open, each kid row its own; what is done. What each step does to it. No program in sight.
-/
set_option linter.unusedVariables false
set_option linter.unusedSimpArgs false
namespace Go.Proofs.YtjhkihkiebnpaaaGreatDoor
open Go.RowKit
structure St where
  ps : List TP
  dn : List TP
  A : Option Addr
  c : Nat
  B : Option Addr
  cB : Nat
/-- k is the block that A points into -/
def bk (A : Option Addr) (k : Nat) : Prop := ∃ ad : Addr, A = some ad ∧ ad.block = k
theorem bk_some {g o k : Nat} : bk (some ⟨g, o, none⟩) k ↔ g = k := ⟨fun ⟨ad, e, h⟩ => by injection e with e; subst e; exact h, fun h => ⟨_, rfl, h⟩⟩
theorem bk_none {k : Nat} : ¬ bk none k := fun ⟨_, e, _⟩ => by cases e
theorem bk_own {A : Option Addr} {n c k : Nat} : bk A k ↔ (Value.slice A n c).ownBlock = some k := by
  cases A with
  | none => exact ⟨fun h => absurd h bk_none, fun h => by simp [Value.ownBlock] at h⟩
  | some ad => exact ⟨fun ⟨a, e, h⟩ => by injection e with e; subst e; simpa [Value.ownBlock] using h, fun h => ⟨ad, rfl, by simpa [Value.ownBlock] using h⟩⟩
def St.live (σ : St) (k : Nat) : Prop := bk σ.A k ∨ bk σ.B k ∨ ∃ p ∈ σ.ps, bk p.2.1 k
def St.free (σ : St) (b0 : Nat) (w : World) (k : Nat) : Prop := b0 ≤ k ∧ k < w.heap.size ∧ ¬ σ.live k
abbrev TreeT : TypeId := 71
structure RInv (s : ByteArray) (w : World) (σ : St) (w' : World) : Prop where
  low : Below w.heap.size w w'
  size : w.heap.size + 2 ≤ w'.heap.size
  res : w'.heap[w.heap.size]? = some (.cells #[.int .i64 0, .string ⟨#[]⟩, .int .i64 0, .slice none 0 0, .int .i64 0] 71 (0, 0))
  rd : w'.heap[w.heap.size + 1]? = some (.cells #[.string s, .slice σ.A σ.ps.length σ.c, .slice σ.B σ.dn.length σ.cB] 102 (0, 0))
  own : w'.ownsRow (w.heap.size + 2) 71 5 (.slice σ.A σ.ps.length σ.c) σ.ps.length (flatT σ.ps)
  owd : w'.ownsRow (w.heap.size + 2) 71 5 (.slice σ.B σ.dn.length σ.cB) σ.dn.length (flatT σ.dn)
  ab : ∀ k, bk σ.A k → ¬ bk σ.B k
  ak : ∀ p ∈ σ.ps, ∀ k, bk p.2.1 k → ¬ bk σ.A k ∧ ¬ bk σ.B k
  kk : ∀ (i j : Nat) (p q : TP), σ.ps[i]? = some p → σ.ps[j]? = some q → i ≠ j → ∀ k, bk p.2.1 k → ¬ bk q.2.1 k
  kid : ∀ p ∈ σ.ps, ∃ qs : List TP, qs.map Prod.fst = p.1.kids ∧ w'.ownsRow (w.heap.size + 2) 71 5 (.slice p.2.1 p.1.kids.length p.2.2) p.1.kids.length (flatT qs) ∧
    ∀ q ∈ qs, q.1.kids.length ≤ q.2.2 ∧ XTK w' (σ.free (w.heap.size + 2) w') q.2.1 q.1.kids
  dnk : ∀ q ∈ σ.dn, q.1.kids.length ≤ q.2.2 ∧ XTK w' (σ.free (w.heap.size + 2) w') q.2.1 q.1.kids
  od : σ.ps = [] ∨ σ.dn = []
  bn : σ.dn = [] → σ.B = none ∧ σ.cB = 0
theorem own_keepA {w w' : World} {base n c z : Nat} {A : Option Addr} {e : TypeId} {xs : List Value} (h : w.ownsRow base e z (.slice A n c) n xs) (hb : ∀ k, bk A k → w'.heap[k]? = w.heap[k]?) : w'.ownsRow base e z (.slice A n c) n xs := by
  refine ⟨h.1, ?_⟩
  rcases h.2 with hn | ⟨g', cap, cur, e1, hg, hgg, rest⟩
  · exact .inl hn
  · exact .inr ⟨g', cap, cur, e1, hg, by rw [hb g' (bk_own.2 (by rw [e1]; rfl))]; exact hgg, rest⟩
theorem own_bk {w : World} {base n c z k : Nat} {A : Option Addr} {e : TypeId} {xs : List Value} (h : w.ownsRow base e z (.slice A n c) n xs) (hk : bk A k) : base ≤ k ∧ k < w.heap.size := h.lt k (bk_own.1 hk)
theorem xtk_move {w w' : World} {S S' : Nat → Prop} {A : Option Addr} {l : List T} (h : XTK w S A l) (h1 : ∀ k, S k → w'.heap[k]? = w.heap[k]?) (h2 : ∀ k, S k → S' k) : XTK w' S' A l := (h.kept h1).mono h2
/-- what is owned is a row of trees; its block lies in S -/
theorem own_trees2 {w : World} {base : Nat} {e : TypeId} {A : Option Addr} {c : Nat} {l : List TP} (h : w.ownsRow base e 5 (.slice A l.length c) l.length (flatT l)) (hn : l.length ≤ 9223372036854775807) {S : Nat → Prop} (hS : ∀ g, bk A g → S g) (hk : ∀ x ∈ l, x.1.kids.length ≤ x.2.2 ∧ XTK w S x.2.1 x.1.kids) :
    (l.map Prod.fst).length ≤ c ∧ XTK w S A (l.map Prod.fst) := by
  obtain ⟨_, hcase⟩ := id h
  rcases hcase with ⟨e1, h0⟩ | ⟨g, cap, cur, e1, hg, hh, hc, hcap, hsz, htake⟩
  · have e0 : l = [] := List.eq_nil_of_length_eq_zero h0
    subst e0
    exact ⟨Nat.zero_le _, .nil _⟩
  · injection e1 with e2 e3 e4
    subst e2 e4
    refine ⟨by rw [List.length_map]; exact hc, .mk g 0 _ (by rw [List.length_map]; exact hn) (hS g (bk_some.2 rfl)) (fun i => ((l[i]?).map fun x => x.2.1).getD none) (fun i => ((l[i]?).map fun x => x.2.2).getD 0) (fun i x hx => ?_) (fun i x hx => ?_)⟩
    · rw [List.getElem?_map] at hx
      cases hl : l[i]? with
      | none => rw [hl] at hx; cases hx
      | some y =>
        rw [hl] at hx
        obtain rfl : y.1 = x := by simpa using hx
        obtain ⟨f1, f2, f3, f4, f5⟩ := flatT_get l i y hl
        have hi : i < l.length := (List.getElem?_eq_some_iff.1 hl).1
        rw [Nat.zero_add, h.cellAt _ (by omega), h.cellAt _ (by omega), h.cellAt _ (by omega), h.cellAt _ (by omega), h.cellAt _ (by omega)]
        exact ⟨f1, f2, f3, f4, f5, (hk y (List.mem_of_getElem? hl)).1⟩
    · rw [List.getElem?_map] at hx
      cases hl : l[i]? with
      | none => rw [hl] at hx; cases hx
      | some y =>
        rw [hl] at hx
        obtain rfl : y.1 = x := by simpa using hx
        exact (hk y (List.mem_of_getElem? hl)).2
section
variable {s : ByteArray} {w w1 w2 : World} {σ : St}
theorem RInv.below (h : RInv s w σ w1) (hb : Below w1.heap.size w1 w2) : RInv s w σ w2 := by
  have hs := hb.size
  have hz := h.size
  have hfree : ∀ k, σ.free (w.heap.size + 2) w1 k → w2.heap[k]? = w1.heap[k]? := fun k hk => hb.block k hk.2.1
  have hmono : ∀ k, σ.free (w.heap.size + 2) w1 k → σ.free (w.heap.size + 2) w2 k := fun k hk => ⟨hk.1, by have := hk.2.1; omega, hk.2.2⟩
  refine ⟨h.low.trans (hb.mono (by omega)), by omega, (hb.block _ (by omega)).trans h.res, (hb.block _ (by omega)).trans h.rd, own_below h.own hb, own_below h.owd hb, h.ab, h.ak, h.kk, fun p hp => ?_, fun q hq => ?_, h.od, h.bn⟩
  · obtain ⟨qs, e, ho, hx⟩ := h.kid p hp
    exact ⟨qs, e, own_below ho hb, fun q hq => ⟨(hx q hq).1, xtk_move (hx q hq).2 hfree hmono⟩⟩
  · exact ⟨(h.dnk q hq).1, xtk_move (h.dnk q hq).2 hfree hmono⟩
/-- a new one is opened -/
theorem RInv.push (h : RInv s w σ w1) (hdn : σ.dn = []) {t : T} (ht : t.kids = []) (he : PutEff 102 w1 w2 (w.heap.size + 2) (w.heap.size + 1) 1 #[.string s, .slice σ.A σ.ps.length σ.c, .slice σ.B σ.dn.length σ.cB] σ.A σ.ps.length σ.ps (t, none, 0)) :
    ∃ g' cap', RInv s w { σ with ps := σ.ps ++ [(t, none, 0)], A := some ⟨g', 0, none⟩, c := cap' } w2 := by
  obtain ⟨g', cap', ho, hr, has, hg⟩ := he
  have hs := has.size
  have hz := h.size
  refine ⟨g', cap', ?_⟩
  have hb0 : w.heap.size + 2 ≤ g' := (ho.lt g' rfl).1
  have hg2 : ∀ k, k < w1.heap.size → ¬ bk σ.A k → g' ≠ k := fun k hk hn e => by
    rcases hg with h1 | h1
    · exact hn (e ▸ h1)
    · omega
  have hblk : ∀ k, k < w1.heap.size → k ≠ w.heap.size + 1 → ¬ bk σ.A k → w2.heap[k]? = w1.heap[k]? := fun k h1 h2 h3 => has.block k h1 fun hx => hx.elim h2 h3
  have hfree : ∀ k, σ.free (w.heap.size + 2) w1 k → w2.heap[k]? = w1.heap[k]? := fun k hk => hblk k hk.2.1 (by have := hk.1; omega) (fun e => hk.2.2 (.inl e))
  have hmono : ∀ k, σ.free (w.heap.size + 2) w1 k → ({ σ with ps := σ.ps ++ [(t, none, 0)], A := some ⟨g', 0, none⟩, c := cap' } : St).free (w.heap.size + 2) w2 k := fun k hk => ⟨hk.1, by have := hk.2.1; omega, fun hl => by
    rcases hl with h1 | h1 | ⟨p, hp, h1⟩
    · exact hg2 k hk.2.1 (fun e => hk.2.2 (.inl e)) (bk_some.1 h1)
    · exact hk.2.2 (.inr (.inl h1))
    · rcases List.mem_append.1 hp with hp | hp
      · exact hk.2.2 (.inr (.inr ⟨p, hp, h1⟩))
      · obtain rfl : p = (t, none, 0) := by simpa using hp
        exact bk_none h1⟩
  have hkl : ∀ p ∈ σ.ps, ∀ k, bk p.2.1 k → w.heap.size + 2 ≤ k ∧ k < w1.heap.size := fun p hp k hk => by
    obtain ⟨qs, _, ho, _⟩ := h.kid p hp
    exact own_bk ho hk
  have hBl : ∀ k, bk σ.B k → w.heap.size + 2 ≤ k ∧ k < w1.heap.size := fun k hk => own_bk h.owd hk
  refine ⟨h.low.trans (has.below (by omega) fun b hx => hx.elim (fun e => by omega) (fun hx => by have := (own_bk h.own hx).1; omega)), by omega, (hblk _ (by omega) (by omega) (fun e => by have := (own_bk h.own e).1; omega)).trans h.res, ?_, ?_, own_keepA h.owd (fun k hk => hblk k (hBl k hk).2 (by have := (hBl k hk).1; omega) (fun e => h.ab k e hk)), ?_, ?_, ?_, ?_, ?_, .inr hdn, h.bn⟩
  · rw [hr]
    simp
  · simpa using ho
  · intro k hk hB
    obtain rfl := bk_some.1 hk
    rcases hg with h1 | h1
    · exact h.ab _ h1 hB
    · have := (hBl _ hB).2; omega
  · intro p hp k hk
    rcases List.mem_append.1 hp with hp | hp
    · exact ⟨fun e => hg2 k (hkl p hp k hk).2 (h.ak p hp k hk).1 (bk_some.1 e), (h.ak p hp k hk).2⟩
    · obtain rfl : p = (t, none, 0) := by simpa using hp
      exact absurd hk bk_none
  · intro i j p q hi hj hij k hk hq
    rcases Nat.lt_or_ge i σ.ps.length with hil | hil
    · rcases Nat.lt_or_ge j σ.ps.length with hjl | hjl
      · simp only [List.getElem?_append_left hil] at hi
        simp only [List.getElem?_append_left hjl] at hj
        exact h.kk i j p q hi hj hij k hk hq
      · simp only [List.getElem?_append_right hjl] at hj
        have := List.mem_of_getElem? hj
        obtain rfl : q = (t, none, 0) := by simpa using this
        exact bk_none hq
    · simp only [List.getElem?_append_right hil] at hi
      have := List.mem_of_getElem? hi
      obtain rfl : p = (t, none, 0) := by simpa using this
      exact bk_none hk
  · intro p hp
    rcases List.mem_append.1 hp with hp | hp
    · obtain ⟨qs, e, ho2, hx⟩ := h.kid p hp
      exact ⟨qs, e, own_keepA ho2 (fun k hk => hblk k (hkl p hp k hk).2 (by have := (hkl p hp k hk).1; omega) (h.ak p hp k hk).1), fun q hq => ⟨(hx q hq).1, xtk_move (hx q hq).2 hfree hmono⟩⟩
    · obtain rfl : p = (t, none, 0) := by simpa using hp
      refine ⟨[], by rw [ht]; rfl, ?_, fun q hq => by cases hq⟩
      show w2.ownsRow _ _ 5 (.slice none t.kids.length 0) t.kids.length (flatT [])
      rw [ht]
      exact ⟨rfl, .inl ⟨rfl, rfl⟩⟩
  · intro q hq
    exact ⟨(h.dnk q hq).1, xtk_move (h.dnk q hq).2 hfree hmono⟩
/-- a whole one is put away -/
theorem RInv.done (h : RInv s w σ w1) (hps : σ.ps = []) (hdn : σ.dn = []) {x : TP} (hx : x.1.kids.length ≤ x.2.2 ∧ XTK w1 (σ.free (w.heap.size + 2) w1) x.2.1 x.1.kids)
    (he : PutEff 102 w1 w2 (w.heap.size + 2) (w.heap.size + 1) 2 #[.string s, .slice σ.A 0 σ.c, .slice none 0 0] none 0 [] x) :
    ∃ g' cap', RInv s w { σ with dn := [x], B := some ⟨g', 0, none⟩, cB := cap' } w2 := by
  obtain ⟨g', cap', ho, hr, has, hg⟩ := he
  have hs := has.size
  have hz := h.size
  refine ⟨g', cap', ?_⟩
  have hge : w1.heap.size ≤ g' := by
    rcases hg with h1 | h1
    · exact absurd h1 bk_none
    · exact h1
  have hblk : ∀ k, k < w1.heap.size → k ≠ w.heap.size + 1 → w2.heap[k]? = w1.heap[k]? := fun k h1 h2 => has.block k h1 fun hx => hx.elim h2 bk_none
  have hfree : ∀ k, σ.free (w.heap.size + 2) w1 k → w2.heap[k]? = w1.heap[k]? := fun k hk => hblk k hk.2.1 (by have := hk.1; omega)
  have hmono : ∀ k, σ.free (w.heap.size + 2) w1 k → ({ σ with dn := [x], B := some ⟨g', 0, none⟩, cB := cap' } : St).free (w.heap.size + 2) w2 k := fun k hk => ⟨hk.1, by have := hk.2.1; omega, fun hl => by
    rcases hl with h1 | h1 | ⟨p, hp, h1⟩
    · exact hk.2.2 (.inl h1)
    · have := bk_some.1 h1; have := hk.2.1; omega
    · exact hk.2.2 (.inr (.inr ⟨p, hp, h1⟩))⟩
  refine ⟨h.low.trans (has.below (by omega) fun b hx => hx.elim (fun e => by omega) (fun hx => absurd hx bk_none)), by omega, (hblk _ (by omega) (by omega)).trans h.res, ?_, own_keepA h.own (fun k hk => hblk k (own_bk h.own hk).2 (by have := (own_bk h.own hk).1; omega)), ?_, ?_, ?_, ?_, ?_, ?_, .inl hps, fun e => by cases e⟩
  · rw [hr, hps]
    rfl
  · exact ho
  · intro k hk hB
    have := (own_bk h.own hk).2
    have := bk_some.1 hB
    omega
  · intro p hp; simp only [hps] at hp; cases hp
  · intro i j p q hi; simp only [hps] at hi; cases hi
  · intro p hp; simp only [hps] at hp; cases hp
  · intro q hq
    obtain rfl : q = x := by simpa using hq
    exact ⟨hx.1, xtk_move hx.2 hfree hmono⟩
/-- the last that is open gets one kid more -/
theorem RInv.addKid (h : RInv s w σ w1) {m gO n : Nat} {cur : Array Value} {qs : List TP} {p x : TP} (hm : σ.ps.length = m + 1) (hp : σ.ps[m]? = some p) (hA : σ.A = some ⟨gO, 0, none⟩) (hcur : w1.heap[gO]? = some (.cells cur 71 (0, 0)))
    (hn : n = p.1.kids.length) (hqs : qs.map Prod.fst = p.1.kids) (hqk : ∀ q ∈ qs, q.1.kids.length ≤ q.2.2 ∧ XTK w1 (σ.free (w.heap.size + 2) w1) q.2.1 q.1.kids)
    (hx : x.1.kids.length ≤ x.2.2 ∧ XTK w1 (σ.free (w.heap.size + 2) w1) x.2.1 x.1.kids) (he : AddEff w1 w2 (w.heap.size + 2) gO (m * 5 + 3) cur p.2.1 n qs x) :
    ∃ g' cap', RInv s w { σ with ps := σ.ps.set m (p.1.kid x.1, some ⟨g', 0, none⟩, cap') } w2 := by
  obtain ⟨g', cap', ho, hr, has, hg⟩ := he
  subst hn
  have hs := has.size
  have hz := h.size
  have hpm := List.mem_of_getElem? hp
  have hmlt : m < σ.ps.length := by omega
  refine ⟨g', cap', ?_⟩
  have hgO := own_bk h.own (k := gO) (by rw [hA]; exact bk_some.2 rfl)
  have hkl : ∀ p ∈ σ.ps, ∀ k, bk p.2.1 k → w.heap.size + 2 ≤ k ∧ k < w1.heap.size := fun p hp k hk => by
    obtain ⟨qs, _, ho, _⟩ := h.kid p hp
    exact own_bk ho hk
  have hg2 : ∀ k, k < w1.heap.size → ¬ bk p.2.1 k → g' ≠ k := fun k hk hn e => by
    rcases hg with h1 | h1
    · exact hn (e ▸ h1)
    · omega
  have hblk : ∀ k, k < w1.heap.size → ¬ bk σ.A k → ¬ bk p.2.1 k → w2.heap[k]? = w1.heap[k]? := fun k h1 h2 h3 => has.block k h1 fun hx => hx.elim (fun e => h2 (by rw [hA]; exact bk_some.2 e.symm)) h3
  have hfree : ∀ k, σ.free (w.heap.size + 2) w1 k → w2.heap[k]? = w1.heap[k]? := fun k hk => hblk k hk.2.1 (fun e => hk.2.2 (.inl e)) (fun e => hk.2.2 (.inr (.inr ⟨p, hpm, e⟩)))
  have hset : ∀ q, q ∈ σ.ps.set m (p.1.kid x.1, some ⟨g', 0, none⟩, cap') → (q = (p.1.kid x.1, some ⟨g', 0, none⟩, cap')) ∨ ∃ j, j ≠ m ∧ σ.ps[j]? = some q := fun q hq => by
    obtain ⟨j, hj⟩ := List.mem_iff_getElem?.1 hq
    by_cases e : m = j
    · subst e
      rw [List.getElem?_set_self hmlt] at hj
      exact .inl (Option.some.inj hj).symm
    · rw [List.getElem?_set_ne e] at hj
      exact .inr ⟨j, fun h => e h.symm, hj⟩
  have hmono : ∀ k, σ.free (w.heap.size + 2) w1 k → ({ σ with ps := σ.ps.set m (p.1.kid x.1, some ⟨g', 0, none⟩, cap') } : St).free (w.heap.size + 2) w2 k := fun k hk => ⟨hk.1, by have := hk.2.1; omega, fun hl => by
    rcases hl with h1 | h1 | ⟨q, hq, h1⟩
    · exact hk.2.2 (.inl h1)
    · exact hk.2.2 (.inr (.inl h1))
    · rcases hset q hq with rfl | ⟨j, _, hj⟩
      · exact hg2 k hk.2.1 (fun e => hk.2.2 (.inr (.inr ⟨p, hpm, e⟩))) (bk_some.1 h1)
      · exact hk.2.2 (.inr (.inr ⟨q, List.mem_of_getElem? hj, h1⟩))⟩
  have hBl : ∀ k, bk σ.B k → w.heap.size + 2 ≤ k ∧ k < w1.heap.size := fun k hk => own_bk h.owd hk
  have hdn : σ.dn = [] := by
    rcases h.od with h1 | h1
    · rw [h1] at hm; cases hm
    · exact h1
  refine ⟨h.low.trans (has.below (by omega) fun b hx => hx.elim (fun e => by omega) (fun hx => by have := (hkl p hpm b hx).1; omega)), by omega, (hblk _ (by omega) (fun e => by have := (own_bk h.own e).1; omega) (fun e => by have := (hkl p hpm _ e).1; omega)).trans h.res,
    ?_, ?_, own_keepA h.owd (fun k hk => hblk k (hBl k hk).2 (fun e => h.ab k e hk) (fun e => (h.ak p hpm k e).2 hk)), h.ab, ?_, ?_, ?_, ?_, .inr hdn, h.bn⟩
  · rw [(hblk _ (by omega) (fun e => by have := (own_bk h.own e).1; omega) (fun e => by have := (hkl p hpm _ e).1; omega)).trans h.rd]
    simp
  · obtain ⟨h1, h2⟩ := h.own
    refine ⟨by rw [flatT_len], .inr ?_⟩
    rcases h2 with ⟨_, h'⟩ | ⟨g3, cap3, cur3, e3, hb3, hg3, hnc, hcm, hcs, htake⟩
    · rw [hm] at h'; cases h'
    · rw [hA] at e3
      simp only [Value.slice.injEq, Option.some.injEq, Addr.mk.injEq, and_true, true_and] at e3
      obtain ⟨rfl, e4⟩ := e3
      rw [hcur] at hg3
      have hcc : cur = cur3 := by injection hg3 with hg3; injection hg3
      subst hcc
      refine ⟨gO, σ.c, _, by simp only [hA, List.length_set], hb3, hr, by rw [e4]; simpa using hnc, by rw [e4]; exact hcm, by rw [Array.size_setIfInBounds, hcs, e4], ?_⟩
      rw [Array.toList_setIfInBounds, List.take_set, List.length_set, htake]
      have hks : p.1.kids.length + 1 = (p.1.kids ++ [x.1]).length := by simp
      rw [hks, flatT_set σ.ps m p (p.1.kids ++ [x.1]) (some ⟨g', 0, none⟩) cap' hp]
      rfl
  · intro q hq k hk
    rcases hset q hq with rfl | ⟨j, _, hj⟩
    · have e := bk_some.1 hk
      subst e
      rcases hg with h1 | h1
      · exact h.ak p hpm _ h1
      · exact ⟨fun e => by have := (own_bk h.own e).2; omega, fun e => by have := (hBl _ e).2; omega⟩
    · exact h.ak q (List.mem_of_getElem? hj) k hk
  · intro i j a b hi hj hij k hk hq
    by_cases ei : m = i
    · subst ei
      have hi' : (p.1.kid x.1, some ⟨g', 0, none⟩, cap') = a := by
        have := hi
        simp only [List.getElem?_set_self hmlt] at this
        exact Option.some.inj this
      subst hi'
      have hj' : σ.ps[j]? = some b := by have := hj; simp only [List.getElem?_set_ne hij] at this; exact this
      have e := bk_some.1 hk
      subst e
      rcases hg with h1 | h1
      · exact h.kk m j p b hp hj' hij _ h1 hq
      · have := (hkl b (List.mem_of_getElem? hj') _ hq).2; omega
    · have hi' : σ.ps[i]? = some a := by have := hi; simp only [List.getElem?_set_ne ei] at this; exact this
      by_cases ej : m = j
      · subst ej
        have hj' : (p.1.kid x.1, some ⟨g', 0, none⟩, cap') = b := by
          have := hj
          simp only [List.getElem?_set_self hmlt] at this
          exact Option.some.inj this
        subst hj'
        have e := bk_some.1 hq
        subst e
        rcases hg with h1 | h1
        · exact h.kk i m a p hi' hp hij _ hk h1
        · have := (hkl a (List.mem_of_getElem? hi') _ hk).2; omega
      · have hj' : σ.ps[j]? = some b := by have := hj; simp only [List.getElem?_set_ne ej] at this; exact this
        exact h.kk i j a b hi' hj' hij k hk hq
  · intro q hq
    rcases hset q hq with rfl | ⟨j, hjm, hj⟩
    · refine ⟨qs ++ [x], by rw [List.map_append, hqs]; rfl, ?_, fun y hy => ?_⟩
      · show w2.ownsRow _ _ 5 (.slice (some ⟨g', 0, none⟩) (p.1.kids ++ [x.1]).length cap') (p.1.kids ++ [x.1]).length (flatT (qs ++ [x]))
        rw [List.length_append]
        exact ho
      · rcases List.mem_append.1 hy with hy | hy
        · exact ⟨(hqk y hy).1, xtk_move (hqk y hy).2 hfree hmono⟩
        · obtain rfl : y = x := by simpa using hy
          exact ⟨hx.1, xtk_move hx.2 hfree hmono⟩
    · obtain ⟨qs2, e, ho2, hx2⟩ := h.kid q (List.mem_of_getElem? hj)
      exact ⟨qs2, e, own_keepA ho2 (fun k hk => hblk k (hkl q (List.mem_of_getElem? hj) k hk).2 (h.ak q (List.mem_of_getElem? hj) k hk).1 (h.kk j m q p hj hp hjm k hk)), fun y hy => ⟨(hx2 y hy).1, xtk_move (hx2 y hy).2 hfree hmono⟩⟩
  · intro q hq
    exact ⟨(h.dnk q hq).1, xtk_move (h.dnk q hq).2 hfree hmono⟩
/-- the last that is open is taken out -/
theorem RInv.pop (h : RInv s w σ w1) {m : Nat} {p : TP} (hm : σ.ps.length = m + 1) (hp : σ.ps[m]? = some p) (hk6 : p.1.kids.length ≤ 9223372036854775807) :
    RInv s w { σ with ps := σ.ps.take m } (w1.setCell ⟨w.heap.size + 1, 1, none⟩ (.slice σ.A m σ.c)) ∧
    (p.1.kids.length ≤ p.2.2 ∧ XTK (w1.setCell ⟨w.heap.size + 1, 1, none⟩ (.slice σ.A m σ.c)) (({ σ with ps := σ.ps.take m } : St).free (w.heap.size + 2) (w1.setCell ⟨w.heap.size + 1, 1, none⟩ (.slice σ.A m σ.c))) p.2.1 p.1.kids) := by
  have hz := h.size
  have hpm := List.mem_of_getElem? hp
  obtain ⟨w2, ew2⟩ : ∃ w2, w2 = w1.setCell ⟨w.heap.size + 1, 1, none⟩ (.slice σ.A m σ.c) := ⟨_, rfl⟩
  have hs : w2.heap.size = w1.heap.size := by rw [ew2]; simp [World.setCell]
  have hblk : ∀ k, k ≠ w.heap.size + 1 → w2.heap[k]? = w1.heap[k]? := fun k hk => by rw [ew2]; exact Below.heap_setCell w1 ⟨w.heap.size + 1, 1, none⟩ _ k hk
  have hlow : Below w.heap.size w w2 := by rw [ew2]; exact h.low.setCell (p := ⟨w.heap.size + 1, 1, none⟩) (by simp) _
  have hrd : w2.heap[w.heap.size + 1]? = some (.cells #[.string s, .slice σ.A m σ.c, .slice σ.B σ.dn.length σ.cB] 102 (0, 0)) := by rw [ew2]; exact Blk.set_ h.rd _ _
  rw [← ew2]
  clear ew2
  have htk : (σ.ps.take m).length = m := by rw [List.length_take]; omega
  have hmem : ∀ q, q ∈ σ.ps.take m → ∃ j, j ≠ m ∧ σ.ps[j]? = some q := fun q hq => by
    obtain ⟨j, hj⟩ := List.mem_iff_getElem?.1 hq
    have hjm : j < m := by
      rcases Nat.lt_or_ge j m with h' | h'
      · exact h'
      · rw [List.getElem?_take_eq_none h'] at hj; cases hj
    rw [List.getElem?_take_of_lt hjm] at hj
    exact ⟨j, by omega, hj⟩
  have hkl : ∀ p ∈ σ.ps, ∀ k, bk p.2.1 k → w.heap.size + 2 ≤ k ∧ k < w1.heap.size := fun p hp k hk => by
    obtain ⟨qs, _, ho, _⟩ := h.kid p hp
    exact own_bk ho hk
  have hfree : ∀ k, σ.free (w.heap.size + 2) w1 k → w2.heap[k]? = w1.heap[k]? := fun k hk => hblk k (by have := hk.1; omega)
  have hmono : ∀ k, σ.free (w.heap.size + 2) w1 k → ({ σ with ps := σ.ps.take m } : St).free (w.heap.size + 2) w2 k := fun k hk => ⟨hk.1, by rw [hs]; exact hk.2.1, fun hl => by
    rcases hl with h1 | h1 | ⟨q, hq, h1⟩
    · exact hk.2.2 (.inl h1)
    · exact hk.2.2 (.inr (.inl h1))
    · obtain ⟨j, _, hj⟩ := hmem q hq
      exact hk.2.2 (.inr (.inr ⟨q, List.mem_of_getElem? hj, h1⟩))⟩
  have hdn : σ.dn = [] := by
    rcases h.od with h1 | h1
    · rw [h1] at hm; cases hm
    · exact h1
  constructor
  · refine ⟨hlow, by omega, (hblk _ (by omega)).trans h.res, ?_, ?_, own_keepA h.owd (fun k hk => hblk k (by have := (own_bk h.owd hk).1; omega)), h.ab, fun q hq k hk => ?_, fun i j a b hi hj hij k hk hq => ?_, fun q hq => ?_, fun q hq => ?_, .inr hdn, h.bn⟩
    · rw [hrd]; simp only [htk]
    · have ho : w2.ownsRow (w.heap.size + 2) 71 5 (.slice σ.A σ.ps.length σ.c) σ.ps.length (flatT σ.ps) := own_keepA h.own (fun k hk => hblk k (by have := (own_bk h.own hk).1; omega))
      obtain ⟨g, cap, e, _⟩ := ho.form (by omega)
      injection e with e1 _ e3
      rw [e1] at ho
      have := own_take ho rfl (k := m) (by omega)
      simp only [htk]
      rw [e1]
      exact this
    · obtain ⟨j, _, hj⟩ := hmem q hq
      exact h.ak q (List.mem_of_getElem? hj) k hk
    · have get : ∀ {i : Nat} {a : TP}, (σ.ps.take m)[i]? = some a → σ.ps[i]? = some a := fun {i a} hi => by
        rcases Nat.lt_or_ge i m with h' | h'
        · rw [List.getElem?_take_of_lt h'] at hi; exact hi
        · rw [List.getElem?_take_eq_none h'] at hi; cases hi
      exact h.kk i j a b (get hi) (get hj) hij k hk hq
    · obtain ⟨j, _, hj⟩ := hmem q hq
      obtain ⟨qs, e, ho, hx⟩ := h.kid q (List.mem_of_getElem? hj)
      exact ⟨qs, e, own_keepA ho (fun k hk => hblk k (by have := (own_bk ho hk).1; omega)), fun y hy => ⟨(hx y hy).1, xtk_move (hx y hy).2 hfree hmono⟩⟩
    · exact ⟨(h.dnk q hq).1, xtk_move (h.dnk q hq).2 hfree hmono⟩
  · obtain ⟨qs, e, ho, hx⟩ := h.kid p hpm
    have hl : p.1.kids.length = qs.length := by rw [← e, List.length_map]
    have ho2 : w2.ownsRow (w.heap.size + 2) 71 5 (.slice p.2.1 qs.length p.2.2) qs.length (flatT qs) := by
      rw [← hl]
      exact own_keepA ho (fun k hk => hblk k (by have := (own_bk ho hk).1; omega))
    have := own_trees2 ho2 (by omega) (S := ({ σ with ps := σ.ps.take m } : St).free (w.heap.size + 2) w2) (fun k hk => ⟨(hkl p hpm k hk).1, by rw [hs]; exact (hkl p hpm k hk).2, fun hlv => by
      rcases hlv with h1 | h1 | ⟨q, hq, h1⟩
      · exact (h.ak p hpm k hk).1 h1
      · exact (h.ak p hpm k hk).2 h1
      · obtain ⟨j, hjm, hj⟩ := hmem q hq
        exact h.kk m j p q hp hj (Ne.symm hjm) k hk h1⟩) (fun q hq => ⟨(hx q hq).1, xtk_move (hx q hq).2 hfree hmono⟩)
    rw [e] at this
    exact this
end
end Go.Proofs.YtjhkihkiebnpaaaGreatDoor
/-
  Package sexp's reader: add, as to what the reader holds.
-/
set_option linter.unusedVariables false
set_option linter.unusedSimpArgs false
namespace Go.Proofs.YtjhkihkiebnpaaaGreatDoor
open Go.RowKit
def AddIs (s : ByteArray) (w : World) (σ : St) (t : T) (w2 : World) : Prop := ∃ σ' : St, RInv s w σ' w2 ∧ (σ'.ps.map Prod.fst, σ'.dn.map Prod.fst) = addE (σ.ps.map Prod.fst) (σ.dn.map Prod.fst) t ∧ σ'.ps.length = σ.ps.length ∧ (σ.ps ≠ [] → σ'.dn = σ.dn) ∧
  ∀ p ∈ σ'.ps, ∃ p0 ∈ σ.ps, p.1.kids.length ≤ p0.1.kids.length + 1
theorem add_any {s : ByteArray} {w w1 : World} {σ : St} (h : RInv s w σ w1) (x : TP) (hx : x.1.kids.length ≤ x.2.2 ∧ XTK w1 (σ.free (w.heap.size + 2) w1) x.2.1 x.1.kids) (hfew : σ.ps.length ≤ 12) (hk : ∀ p ∈ σ.ps, p.1.kids.length ≤ 600) (hd : σ.ps = [] → σ.dn = []) :
    Calls Tryz.prog 54 #[.pointer (some ⟨w.heap.size + 1, 0, none⟩), .agg #[.int .i64 x.1.k, .string x.1.s, .int .i64 x.1.n, .slice x.2.1 x.1.kids.length x.2.2, .int .i64 x.1.at_]] w1 fun e w2 => e = .returned (.tuple #[]) ∧ AddIs s w σ x.1 w2 := by
  obtain ⟨⟨k, xs, xn, l, a⟩, A0, c0⟩ := x
  have hz := h.size
  rcases Nat.eq_zero_or_pos σ.ps.length with h0 | h0
  · have hps : σ.ps = [] := List.eq_nil_of_length_eq_zero h0
    have hdn := hd hps
    obtain ⟨hB, hcB⟩ := h.bn hdn
    have hrd := h.rd
    rw [hps, hdn, hB, hcB] at hrd
    refine (add_done (w.heap.size + 1) σ.c (w.heap.size + 2) σ.A s k xn a xs l A0 l.length c0 w1 hrd (by omega) rfl).mono ?_
    rintro e w2 ⟨rfl, he⟩
    refine ⟨rfl, ?_⟩
    obtain ⟨g', cap', hr⟩ := h.done hps hdn hx he
    refine ⟨_, hr, ?_, rfl, fun hne => absurd hps hne, fun p hp => ?_⟩
    · simp only [hps, hdn, List.map_nil, List.map_cons]
      rfl
    · simp only [hps] at hp; cases hp
  · obtain ⟨m, hm⟩ : ∃ m, σ.ps.length = m + 1 := ⟨σ.ps.length - 1, by omega⟩
    obtain ⟨p, hp⟩ : ∃ p, σ.ps[m]? = some p := ⟨_, List.getElem?_eq_getElem (by omega)⟩
    have hpm := List.mem_of_getElem? hp
    obtain ⟨qs, hqs, ho, hqk⟩ := h.kid p hpm
    obtain ⟨hl, hc⟩ := h.own
    rcases hc with ⟨_, h'⟩ | ⟨gO, capO, cur, e1, hb, hg, hnc, hcm, hcs, htake⟩
    · omega
    · have hA : σ.A = some ⟨gO, 0, none⟩ := by injection e1
      have hrd := h.rd
      rw [hA, hm] at hrd
      have hcur : cur[m * 5 + 3]? = some (.slice p.2.1 p.1.kids.length p.2.2) := by
        have h5 := (flatT_get σ.ps m p hp).2.2.2.1
        rw [← htake, List.getElem?_take_of_lt (by omega), Array.getElem?_toList] at h5
        exact h5
      refine (add_kid (w.heap.size + 1) gO m σ.c (.slice σ.B σ.dn.length σ.cB) s cur p.2.1 p.1.kids.length p.2.2 (w.heap.size + 2) qs k xn a xs l A0 l.length c0 w1 hrd hg hcur (by omega) (hk p hpm) (by omega) rfl ho (fun ad e => ?_)).mono ?_
      · have hbk : bk p.2.1 ad.block := ⟨ad, e, rfl⟩
        refine ⟨fun e2 => by have := (own_bk ho hbk).1; omega, fun e2 => (h.ak p hpm ad.block hbk).1 ?_⟩
        rw [hA]
        exact bk_some.2 e2.symm
      · rintro e w2 ⟨rfl, he⟩
        refine ⟨rfl, ?_⟩
        obtain ⟨g', cap', hr⟩ := h.addKid hm hp hA hg rfl hqs hqk hx he
        refine ⟨_, hr, ?_, by simp, fun _ => rfl, fun q hq => ?_⟩
        · unfold addE
          rw [List.length_map, hm, Nat.add_sub_cancel, List.getElem?_map, hp]
          simp only [Option.map_some, List.map_set]
        · obtain ⟨j, hj⟩ := List.mem_iff_getElem?.1 hq
          by_cases ej : m = j
          · subst ej
            have hj' : (p.1.kid (.mk k xs xn l a), some ⟨g', 0, none⟩, cap') = q := by
              have := hj
              simp only [List.getElem?_set_self (show m < σ.ps.length by omega)] at this
              exact Option.some.inj this
            subst hj'
            exact ⟨p, hpm, by show (p.1.kids ++ [_]).length ≤ _; simp⟩
          · have hj' : σ.ps[j]? = some q := by have := hj; simp only [List.getElem?_set_ne ej] at this; exact this
            exact ⟨q, List.mem_of_getElem? hj', by omega⟩
end Go.Proofs.YtjhkihkiebnpaaaGreatDoor
/-
  The frame of sexp.Read at a jump. No program in sight.
-/
set_option linter.unusedVariables false
set_option linter.unusedSimpArgs false
namespace Go.Proofs.YtjhkihkiebnpaaaGreatDoor
def RFrame (s : ByteArray) (g0 g1 : Nat) (q : Int) (a : Act) : Prop := ∃ tm : Array Value, a = { tmps := tm, defers := [] } ∧ tm.size = 131 ∧ tm.getD 0 undef = .string s ∧ tm.getD 2 undef = .pointer (some ⟨g0, 0, none⟩) ∧ tm.getD 5 undef = .pointer (some ⟨g1, 0, none⟩) ∧ tm.getD 6 undef = .int .i64 q
set_option maxRecDepth 100000 in
theorem RFrame.form {s : ByteArray} {g0 g1 : Nat} {q : Int} {a : Act} (h : RFrame s g0 g1 q a) : ∃ u : Nat → Value, a = { tmps := #[.string s, u 1, .pointer (some ⟨g0, 0, none⟩), u 3, u 4, .pointer (some ⟨g1, 0, none⟩), .int .i64 q, u 7, u 8, u 9, u 10, u 11, u 12, u 13, u 14, u 15, u 16, u 17, u 18, u 19, u 20, u 21, u 22, u 23, u 24, u 25, u 26, u 27, u 28, u 29, u 30, u 31, u 32, u 33, u 34, u 35, u 36, u 37, u 38, u 39, u 40, u 41, u 42, u 43, u 44, u 45, u 46, u 47, u 48, u 49, u 50, u 51, u 52, u 53, u 54, u 55, u 56, u 57, u 58, u 59, u 60, u 61, u 62, u 63, u 64, u 65, u 66, u 67, u 68, u 69, u 70, u 71, u 72, u 73, u 74, u 75, u 76, u 77, u 78, u 79, u 80, u 81, u 82, u 83, u 84, u 85, u 86, u 87, u 88, u 89, u 90, u 91, u 92, u 93, u 94, u 95, u 96, u 97, u 98, u 99, u 100, u 101, u 102, u 103, u 104, u 105, u 106, u 107, u 108, u 109, u 110, u 111, u 112, u 113, u 114, u 115, u 116, u 117, u 118, u 119, u 120, u 121, u 122, u 123, u 124, u 125, u 126, u 127, u 128, u 129, u 130], defers := [] } := by
  obtain ⟨tm, rfl, h, h0, h2, h5, h6⟩ := h
  have e : tm = #[tm.getD 0 undef, tm.getD 1 undef, tm.getD 2 undef, tm.getD 3 undef, tm.getD 4 undef, tm.getD 5 undef, tm.getD 6 undef, tm.getD 7 undef, tm.getD 8 undef, tm.getD 9 undef, tm.getD 10 undef, tm.getD 11 undef, tm.getD 12 undef, tm.getD 13 undef, tm.getD 14 undef, tm.getD 15 undef, tm.getD 16 undef, tm.getD 17 undef, tm.getD 18 undef, tm.getD 19 undef, tm.getD 20 undef, tm.getD 21 undef, tm.getD 22 undef, tm.getD 23 undef, tm.getD 24 undef, tm.getD 25 undef, tm.getD 26 undef, tm.getD 27 undef, tm.getD 28 undef, tm.getD 29 undef, tm.getD 30 undef, tm.getD 31 undef, tm.getD 32 undef, tm.getD 33 undef, tm.getD 34 undef, tm.getD 35 undef, tm.getD 36 undef, tm.getD 37 undef, tm.getD 38 undef, tm.getD 39 undef, tm.getD 40 undef, tm.getD 41 undef, tm.getD 42 undef, tm.getD 43 undef, tm.getD 44 undef, tm.getD 45 undef, tm.getD 46 undef, tm.getD 47 undef, tm.getD 48 undef, tm.getD 49 undef, tm.getD 50 undef, tm.getD 51 undef, tm.getD 52 undef, tm.getD 53 undef, tm.getD 54 undef, tm.getD 55 undef, tm.getD 56 undef, tm.getD 57 undef, tm.getD 58 undef, tm.getD 59 undef, tm.getD 60 undef, tm.getD 61 undef, tm.getD 62 undef, tm.getD 63 undef, tm.getD 64 undef, tm.getD 65 undef, tm.getD 66 undef, tm.getD 67 undef, tm.getD 68 undef, tm.getD 69 undef, tm.getD 70 undef, tm.getD 71 undef, tm.getD 72 undef, tm.getD 73 undef, tm.getD 74 undef, tm.getD 75 undef, tm.getD 76 undef, tm.getD 77 undef, tm.getD 78 undef, tm.getD 79 undef, tm.getD 80 undef, tm.getD 81 undef, tm.getD 82 undef, tm.getD 83 undef, tm.getD 84 undef, tm.getD 85 undef, tm.getD 86 undef, tm.getD 87 undef, tm.getD 88 undef, tm.getD 89 undef, tm.getD 90 undef, tm.getD 91 undef, tm.getD 92 undef, tm.getD 93 undef, tm.getD 94 undef, tm.getD 95 undef, tm.getD 96 undef, tm.getD 97 undef, tm.getD 98 undef, tm.getD 99 undef, tm.getD 100 undef, tm.getD 101 undef, tm.getD 102 undef, tm.getD 103 undef, tm.getD 104 undef, tm.getD 105 undef, tm.getD 106 undef, tm.getD 107 undef, tm.getD 108 undef, tm.getD 109 undef, tm.getD 110 undef, tm.getD 111 undef, tm.getD 112 undef, tm.getD 113 undef, tm.getD 114 undef, tm.getD 115 undef, tm.getD 116 undef, tm.getD 117 undef, tm.getD 118 undef, tm.getD 119 undef, tm.getD 120 undef, tm.getD 121 undef, tm.getD 122 undef, tm.getD 123 undef, tm.getD 124 undef, tm.getD 125 undef, tm.getD 126 undef, tm.getD 127 undef, tm.getD 128 undef, tm.getD 129 undef, tm.getD 130 undef] := (frame_of h).trans (by kernel_rfl)
  refine ⟨fun i => tm.getD i undef, congrArg (fun t => ({ tmps := t, defers := [] } : Act)) (e.trans ?_)⟩
  rw [← h0, ← h2, ← h5, ← h6]
end Go.Proofs.YtjhkihkiebnpaaaGreatDoor
