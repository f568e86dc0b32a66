/-
  The walk of ValueShows.
-/
import Derived.Test.YtabhkfpglhfiiaaDoorKnown4
import Derived.Test.YtabhkfpglhfiiaaDoorShowLaws
namespace Go.Proofs.YtabhkfpglhfiiaaDoor
open Go.RowKit
theorem ok_str (s : ByteArray) (h : s.size ≤ 40) : V.okB ⟨2, 0, s⟩ = true := by
  unfold V.okB
  have : decide ((s.size : Int) ≤ 40) = true := decide_eq_true (by omega)
  simp [this]
theorem ok_num (n : Int) : V.okB ⟨1, n, ⟨#[]⟩⟩ = true := by unfold V.okB; rw [ByteArray.toList_eq]; rfl

set_option maxRecDepth 100000 in
set_option maxHeartbeats 8000000 in
theorem valueShows_main (n : Int) (h0 : -9223372036854775808 ≤ n) (h1 : n ≤ 9223372036854775807) (s : ByteArray) (hsm : s.size ≤ 9223372036854775807) (w : World) (hS : Hid (ShowsAt w)) :
    Calls Tryd.prog 3 #[.int .i64 n, .string s] w fun e w' => e = .returned (.bool true) ∧ Below w.heap.size w w' := by
  go_enter Tryd.func3, Tryd.ntmps3
  go_upto_if 14 with (fail)
  go_cut [1] (fun s1 wx => ∃ s' : ByteArray, s1 = .string s' ∧ s'.size ≤ 40 ∧ wx = w)
  case first =>
    by_cases h8 : 40 < s.size
    · have e8 : decide (40 < (s.size : Int)) = true := decide_eq_true (by omega)
      go_wp2
      go_meet
      exact ⟨_, rfl, by simp; omega, rfl⟩
    · have e8 : decide (40 < (s.size : Int)) = false := decide_eq_false (by omega)
      go_wp2
      go_meet
      exact ⟨s, rfl, by omega, rfl⟩
  case rest =>
  obtain ⟨z, rfl, hz, hwc⟩ := hcut
  obtain rfl : w = wc := hwc.symm
  clear hwc hsm
  have e1 : Hid (showL ⟨2, 0, z⟩ = quoteL z.data.toList) := Lib.hid (by unfold showL; rw [ok_str z hz]; rfl)
  have e2 : Hid (showL ⟨1, n, ⟨#[]⟩⟩ = Lib.itoa n) := Lib.hid (by unfold showL; rw [ok_num n]; rfl)
  go_wp2_with fail
  refine (v_str _ _).mono ?_
  rintro e w1 ⟨rfl, hw1⟩
  have B1 := Lib.hid ((by rw [← hw1]; exact (Below.refl _ _).alloc (Nat.le_refl _) _ : Below w.heap.size w w1))
  clear hw1
  go_wp2_with fail
  refine (hS.out _ _ _ _ B1.out (by decide) (by decide)).mono ?_
  rintro e w2 ⟨rfl, b2⟩
  have B2 := Lib.hid b2
  clear b2 B1
  rw [e1.out]
  obtain ⟨t, ht⟩ : ∃ t : ByteArray, t = ⟨(quoteL z.data.toList).toArray⟩ := ⟨_, rfl⟩
  rw [← ht]
  have htsz : Hid (t.size = (z.data.toList.flatMap qB).length + 2) := Lib.hid (by rw [ht]; exact quote_size _)
  have hts1 : 2 ≤ t.size := by rw [htsz.out]; omega
  have hts2 : t.size ≤ 1000 := by
    rw [htsz.out]
    have := fq_le z.data.toList
    have h2 : z.data.toList.length = z.size := rfl
    omega
  have ht0 : Hid (∀ h, (t[0]'h).toNat = 34) := Lib.hid (by subst ht; exact quote_first _)
  have htl : Hid (∀ h, (t[t.size - 1]'h).toNat = 34) := Lib.hid (by subst ht; exact fun h => quote_last _ _ (by rw [quote_size]; omega) h)
  have hta : Hid (∀ (i : Nat) (h : i < t.size), 32 ≤ (t[i]'h).toNat ∧ (t[i]'h).toNat ≤ 126) := Lib.hid (by subst ht; exact fun i h => quote_at _ i h)
  clear ht e1
  go_wp2_with fail
  go_loop [6, 7] (fun q i => ∃ j : Nat, j ≤ z.size ∧ i = .int .i64 j ∧ q = .int .i64 ((((z.data.toList.take j).flatMap qB).length + 2 : Nat) : Int)) (fun _ i => z.size - (intOf i).toNat)
  case atStart => exact ⟨0, Nat.zero_le _, rfl, rfl⟩
  case round =>
    obtain ⟨j, hj, rfl, rfl⟩ := hrel
    by_cases hlt : j < z.size
    · have hst : Hid (((z.data.toList.take (j + 1)).flatMap qB).length = ((z.data.toList.take j).flatMap qB).length + (qB z[j]).length) := Lib.hid (by rw [take_q z j hlt, List.length_append])
      have hle : ((z.data.toList.take j).flatMap qB).length ≤ 200 := by
        have := fq_le (z.data.toList.take j)
        have h2 : (z.data.toList.take j).length ≤ j := List.length_take_le _ _
        omega
      generalize ((z.data.toList.take j).flatMap qB).length = m at *
      obtain ⟨m2, hm2⟩ : ∃ m2, m2 = ((z.data.toList.take (j + 1)).flatMap qB).length := ⟨_, rfl⟩
      rw [← hm2] at hst
      have Hm2 := Lib.hid hm2
      clear hm2
      obtain ⟨pc, hpc⟩ : ∃ pc, pc = plainC z[j] := ⟨_, rfl⟩
      have Hpc := Lib.hid hpc
      clear hpc
      have hi0 : (0 : Int) ≤ (j : Int) := by omega
      have hi1 : (j : Int) < (z.size : Int) := by omega
      go_upto_region 8 with (fail)
      go_cut [47] (fun s47 wx => s47 = .bool (!pc) ∧ wx = w2)
      case first =>
        by_cases p1 : (z[j].toNat : Int) < 32
        · obtain rfl : pc = false := by rw [Hpc.out, plainC, decide_eq_false (by omega : ¬ 32 ≤ (z[j].toNat : Int))]; rfl
          clear Hpc
          go_wp2_with fail
          go_meet
          exact ⟨rfl, rfl⟩
        · by_cases p2 : 126 < (z[j].toNat : Int)
          · obtain rfl : pc = false := by rw [Hpc.out, plainC, decide_eq_false (by omega : ¬ (z[j].toNat : Int) ≤ 126)]; simp
            clear Hpc
            go_wp2_with fail
            go_meet
            exact ⟨rfl, rfl⟩
          · by_cases p3 : ((z[j].toNat : Int) == 34) = true
            · obtain rfl : pc = false := by rw [Hpc.out, plainC, bne, p3]; simp
              clear Hpc
              go_wp2_with fail
              go_meet
              exact ⟨rfl, rfl⟩
            · have p3' : ((z[j].toNat : Int) == 34) = false := by simpa using p3
              obtain rfl : pc = !((z[j].toNat : Int) == 92) := by rw [Hpc.out, plainC, decide_eq_true (by omega : 32 ≤ (z[j].toNat : Int)), decide_eq_true (by omega : (z[j].toNat : Int) ≤ 126), bne, bne, p3']; rfl
              clear Hpc p3
              go_wp2_with fail
              go_meet
              exact ⟨by rw [Bool.not_not], rfl⟩
      case rest =>
      obtain ⟨rfl, hwc⟩ := hcut
      obtain rfl : w2 = wc := hwc.symm
      clear hwc
      cases pc
      · have hq : Hid ((qB z[j]).length = 3) := Lib.hid (by unfold qB; rw [← Hpc.out]; rfl)
        have hm : Hid (m2 = m + 3) := Lib.hid (by rw [hst.out, hq.out])
        go_wp2_with fail
        go_round
        case rel => exact ⟨j + 1, by omega, by go_num, congrArg (Value.int .i64) (by rw [← Hm2.out, hm.out]; omega)⟩
        case measure => simp [intOf]; omega
      · have hq : Hid ((qB z[j]).length = 1) := Lib.hid (by unfold qB; rw [← Hpc.out]; rfl)
        have hm : Hid (m2 = m + 1) := Lib.hid (by rw [hst.out, hq.out])
        go_wp2_with fail
        go_round
        case rel => exact ⟨j + 1, by omega, by go_num, congrArg (Value.int .i64) (by rw [← Hm2.out, hm.out]; omega)⟩
        case measure => simp [intOf]; omega
    · have hjz : j = z.size := by omega
      have hts : Hid (((z.data.toList.take j).flatMap qB).length + 2 = t.size) := Lib.hid (by rw [htsz.out, List.take_of_length_le (by rw [hjz]; exact Nat.le_refl _)])
      rw [hts.out]
      clear htsz hts hjz
      have x0 := ht0.out
      have xl := htl.out
      have y0 : (0 : Int) ≤ (t.size : Int) - 1 := by omega
      have y1 : (1 : Int) ≤ (t.size : Int) := by omega
      have y2 : (t.size : Int) - 1 < (t.size : Int) := by omega
      have y3 : (0 : Int) < (t.size : Int) := by omega
      have y4 : decide ((t.size : Int) < 2) = false := decide_eq_false (by omega)
      clear ht0 htl
      go_wp2_with fail
      clear x0 xl hj hlt
      go_loop [8] (fun i => ∃ j : Nat, j ≤ t.size ∧ i = .int .i64 j) (fun i => t.size - (intOf i).toNat)
      case atStart => exact ⟨0, Nat.zero_le _, rfl⟩
      case round =>
        obtain ⟨j, hj, rfl⟩ := hrel
        by_cases hlt : j < t.size
        · obtain ⟨a1, a2⟩ := hta.out j hlt
          have d1 : decide ((t[j].toNat : Int) < 32) = false := decide_eq_false (by omega)
          have d2 : decide (126 < (t[j].toNat : Int)) = false := decide_eq_false (by omega)
          have hi0 : (0 : Int) ≤ (j : Int) := by omega
          have hi1 : (j : Int) < (t.size : Int) := by omega
          go_wp2_with fail
          go_round
          case rel => exact ⟨j + 1, by omega, by go_num⟩
          case measure => simp [intOf]; omega
        · clear hta hts1 hts2
          go_wp2_with fail
          refine (v_num n _).mono ?_
          rintro e w3 ⟨rfl, hw3⟩
          have B3 := Lib.hid (B2.out.trans (by rw [← hw3]; exact (Below.refl _ _).alloc B2.out.size _ : Below w.heap.size w2 w3))
          clear hw3 B2 hlt hj
          go_wp2_with fail
          refine (hS.out _ _ _ _ B3.out h0 h1).mono ?_
          rintro e w4 ⟨rfl, b4⟩
          have B4 := Lib.hid b4
          clear b4 B3
          rw [e2.out]
          obtain ⟨D, hD⟩ : ∃ D : ByteArray, D = ⟨(Lib.itoa n).toArray⟩ := ⟨_, rfl⟩
          rw [← hD]
          have hkn := Lib.hid (known4 w w4 hS B4)
          obtain ⟨L, hL⟩ : ∃ L, L = Lib.nDigits n.natAbs := ⟨_, rfl⟩
          have hLp : 1 ≤ L := by rw [hL]; exact Lib.nDigits_pos _
          have hL20 : L ≤ 20 := by rw [hL]; exact Lib.nDigits_le20 _ (by omega)
          by_cases hn : n < 0
          · have hl : D.data.toList = 45 :: Lib.decDigits n.natAbs := by rw [hD]; show Lib.itoa n = _; rw [Lib.itoa, if_pos hn]
            have hsz : D.size = L + 1 := by
              have : D.data.toList.length = (Lib.decDigits n.natAbs).length + 1 := by rw [hl]; rfl
              rw [Lib.decDigits_length, ← hL] at this
              exact this
            have hz0 := Lib.hid (neg_zero n.natAbs D hl)
            have hat : Hid (∀ (i : Nat) (h : i + 1 < D.size), i < L ∧ (D[i + 1]).toNat = 48 + n.natAbs / 10 ^ (L - 1 - i) % 10) := Lib.hid (by rw [hL]; exact fun i h => neg_at n.natAbs i D hl h)
            have hld : Hid (1 ≤ n.natAbs / 10 ^ (L - 1) % 10) := Lib.hid (by rw [hL]; exact lead_digit _ (by omega))
            have hun : (n.natAbs : Int) = -n := by omega
            obtain ⟨u, hu⟩ : ∃ u, u = n.natAbs := ⟨_, rfl⟩
            rw [← hu] at hat hld hun
            have hend : Hid (u < 10 ^ L) := Lib.hid (by rw [hu, hL]; exact Lib.lt_pow_nDigits _)
            have Hun := Lib.hid hun
            have Hsz := Lib.hid hsz
            have hsz1 : D.size ≤ 21 := by omega
            have hsz2 : 2 ≤ D.size := by omega
            clear hD hL hl hu hun hsz e2 hS
            go_wp2_with fail
            go_loop [10, 11] (fun b i => ∃ j : Nat, j ≤ D.size ∧ i = .int .i64 j ∧ b = .int .i64 (-((u / 10 ^ (L + 1 - j) : Nat) : Int))) (fun _ i => D.size - (intOf i).toNat)
            case atStart => exact ⟨0, Nat.zero_le _, rfl, congrArg (Value.int .i64) (by
              have : u / 10 ^ (L + 1 - 0) = 0 := Nat.div_eq_of_lt (Nat.lt_of_lt_of_le hend.out (Nat.pow_le_pow_right (by decide) (by omega)))
              rw [this]; rfl)⟩
            case round =>
              obtain ⟨j, hj, rfl, hb⟩ := hrel
              obtain ⟨β, hβ⟩ : ∃ β : Int, β = -((u / 10 ^ (L + 1 - j) : Nat) : Int) := ⟨_, rfl⟩
              rw [← hβ] at hb
              subst hb
              have Hβ := Lib.hid hβ
              clear hβ
              by_cases hlt : j < D.size
              · have hi0 : (0 : Int) ≤ (j : Int) := by omega
                have hi1 : (j : Int) < (D.size : Int) := by omega
                by_cases hj0 : j = 0
                · subst hj0
                  have x0 := hz0.out
                  have hd0 : (0 : Int) < (D.size : Int) := by omega
                  go_wp2_with fail
                  go_round
                  case rel => exact ⟨1, by omega, rfl, congrArg (Value.int .i64) (by
                    have e1 : u / 10 ^ (L + 1 - 0) = 0 := Nat.div_eq_of_lt (Nat.lt_of_lt_of_le hend.out (Nat.pow_le_pow_right (by decide) (by omega)))
                    have e2 : u / 10 ^ (L + 1 - 1) = 0 := Nat.div_eq_of_lt hend.out
                    rw [Hβ.out, e1, e2])⟩
                  case measure => simp [intOf]; omega
                · obtain ⟨i, rfl⟩ : ∃ i, j = i + 1 := ⟨j - 1, by omega⟩
                  obtain ⟨hiL, hc⟩ := hat.out i hlt
                  have hps := pre_step u L i hiL
                  have hv : L + 1 - (i + 1) = L - i := by omega
                  have hv2 : L + 1 - (i + 1 + 1) = L - (i + 1) := by omega
                  rw [hv] at Hβ
                  have hle : u / 10 ^ (L - (i + 1)) ≤ u := Nat.div_le_self _ _
                  have hld2 : i = 0 → 1 ≤ u / 10 ^ (L - 1 - i) % 10 := fun h => by subst h; exact hld.out
                  obtain ⟨d, hd⟩ : ∃ d, d = u / 10 ^ (L - 1 - i) % 10 := ⟨_, rfl⟩
                  rw [← hd] at hc hps hld2
                  have hd10 : d < 10 := by omega
                  have hub := Hun.out
                  obtain ⟨c, hcc⟩ : ∃ c, c = (D[i + 1]).toNat := ⟨_, rfl⟩
                  have hβ2 := Hβ.out
                  have hnew : Hid (β * 10 - ((c : Int) - 48) = -((u / 10 ^ (L + 1 - (i + 1 + 1)) : Nat) : Int)) := Lib.hid (by rw [hv2]; omega)
                  have b1 : -9223372036854775808 ≤ β * 10 - ((c : Int) - 48) := by omega
                  have b2 : β * 10 - ((c : Int) - 48) ≤ 0 := by omega
                  have b3 : -9223372036854775808 ≤ β * 10 := by omega
                  have b4 : β * 10 ≤ 0 := by omega
                  have q1 : 48 ≤ (c : Int) := by omega
                  have q2 : (c : Int) ≤ 57 := by omega
                  have q3 : ((c : Int) == 45) = false := by simp; omega
                  have q4 : decide ((c : Int) < 48) = false := decide_eq_false (by omega)
                  have q5 : decide (57 < (c : Int)) = false := decide_eq_false (by omega)
                  have q6 : i = 0 → ((c : Int) == 48) = false := fun h => by have := hld2 h; simp; omega
                  have q7 : (((i + 1 : Nat) : Int) == 0) = false := by simp; omega
                  have Q6 := Lib.hid q6
                  rw [hcc] at b1 b2 q1 q2 q3 q4 q5
                  have Hcc := Lib.hid hcc
                  clear hc hps hv hv2 hle hld2 hd hd10 hub hβ2 q6 Hβ hcc
                  by_cases h48 : ((c : Int) == 48) = true
                  · have q8 : (((i + 1 : Nat) : Int) == 1) = false := by
                      have : i ≠ 0 := fun h => by rw [Q6.out h] at h48; cases h48
                      simp; omega
                    rw [Hcc.out] at h48
                    go_wp2_with fail
                    go_round
                    case rel => exact ⟨i + 1 + 1, by omega, by go_num, congrArg (Value.int .i64) (by rw [← hnew.out, Hcc.out])⟩
                    case measure => simp [intOf]; omega
                  · have h48' : ((c : Int) == 48) = false := by simpa using h48
                    rw [Hcc.out] at h48'
                    clear h48
                    go_wp2_with fail
                    go_round
                    case rel => exact ⟨i + 1 + 1, by omega, by go_num, congrArg (Value.int .i64) (by rw [← hnew.out, Hcc.out])⟩
                    case measure => simp [intOf]; omega
              · have hf : Hid (β = n) := Lib.hid (by
                  have e : L + 1 - j = 0 := by have := Hsz.out; omega
                  have := Hun.out
                  have h2 := Hβ.out
                  rw [e, Nat.pow_zero, Nat.div_one] at h2
                  omega)
                have x0 := hz0.out
                have hd0 : (0 : Int) < (D.size : Int) := by omega
                have hbn : (β == n) = true := by rw [hf.out]; simp
                go_wp2_with fail
                refine hkn.out.mono ?_
                rintro e w5 ⟨rfl, b5⟩
                have B5 := Lib.hid b5
                clear b5
                go_wp2_with fail
                go_ret
                exact ⟨rfl, B5.out⟩
          · have hl : D.data.toList = Lib.decDigits n.natAbs := by
              rw [hD]
              show Lib.itoa n = _
              rw [Lib.itoa, if_neg hn]
              congr 1
              omega
            have hsz : D.size = L := by
              have : D.data.toList.length = (Lib.decDigits n.natAbs).length := by rw [hl]
              rw [Lib.decDigits_length, ← hL] at this
              exact this
            have hat : Hid (∀ (i : Nat) (h : i < D.size), i < L ∧ (D[i]).toNat = 48 + n.natAbs / 10 ^ (L - 1 - i) % 10) := Lib.hid (by rw [hL]; exact fun i h => dec_at n.natAbs i D hl h)
            have hld : Hid (1 < L → 1 ≤ n.natAbs / 10 ^ (L - 1) % 10) := Lib.hid (by
              intro h
              rw [hL]
              refine lead_digit _ ?_
              rcases Nat.eq_zero_or_pos n.natAbs with h2 | h2
              · rw [h2] at hL
                rw [Lib.nDigits_small (by decide)] at hL
                omega
              · exact h2)
            have hun : (n.natAbs : Int) = n := by omega
            obtain ⟨u, hu⟩ : ∃ u, u = n.natAbs := ⟨_, rfl⟩
            rw [← hu] at hat hld hun
            have hend : Hid (u < 10 ^ L) := Lib.hid (by rw [hu, hL]; exact Lib.lt_pow_nDigits _)
            have Hun := Lib.hid hun
            have Hsz := Lib.hid hsz
            have hsz1 : D.size ≤ 21 := by omega
            have hsz2 : 1 ≤ D.size := by omega
            have hd0 : (0 : Int) < (D.size : Int) := by omega
            have z45 : ∀ h, (((D[0]'h).toNat : Int) == 45) = false := fun h => by
              have := (hat.out 0 h).2
              simp
              omega
            clear hD hL hl hu hun hsz e2 hS
            go_wp2_with fail
            go_loop [10, 11] (fun b i => ∃ j : Nat, j ≤ D.size ∧ i = .int .i64 j ∧ b = .int .i64 ((u / 10 ^ (L - j) : Nat) : Int)) (fun _ i => D.size - (intOf i).toNat)
            case atStart => exact ⟨0, Nat.zero_le _, rfl, congrArg (Value.int .i64) (by
              have : u / 10 ^ (L - 0) = 0 := Nat.div_eq_of_lt hend.out
              rw [this]; rfl)⟩
            case round =>
              obtain ⟨j, hj, rfl, hb⟩ := hrel
              obtain ⟨β, hβ⟩ : ∃ β : Int, β = ((u / 10 ^ (L - j) : Nat) : Int) := ⟨_, rfl⟩
              rw [← hβ] at hb
              subst hb
              have Hβ := Lib.hid hβ
              clear hβ
              by_cases hlt : j < D.size
              · have hi0 : (0 : Int) ≤ (j : Int) := by omega
                have hi1 : (j : Int) < (D.size : Int) := by omega
                obtain ⟨hiL, hc⟩ := hat.out j hlt
                have hps := pre_step u L j hiL
                have hle : u / 10 ^ (L - (j + 1)) ≤ u := Nat.div_le_self _ _
                have hld2 : j = 0 → 1 < L → 1 ≤ u / 10 ^ (L - 1 - j) % 10 := fun h h2 => by subst h; exact hld.out h2
                obtain ⟨d, hd⟩ : ∃ d, d = u / 10 ^ (L - 1 - j) % 10 := ⟨_, rfl⟩
                rw [← hd] at hc hps hld2
                have hd10 : d < 10 := by omega
                have hub := Hun.out
                obtain ⟨c, hcc⟩ : ∃ c, c = (D[j]).toNat := ⟨_, rfl⟩
                have hβ2 := Hβ.out
                have hnew : Hid (β * 10 + ((c : Int) - 48) = ((u / 10 ^ (L - (j + 1)) : Nat) : Int)) := Lib.hid (by omega)
                have b1 : 0 ≤ β * 10 + ((c : Int) - 48) := by omega
                have b2 : β * 10 + ((c : Int) - 48) ≤ 9223372036854775807 := by omega
                have b3 : 0 ≤ β * 10 := by omega
                have b4 : β * 10 ≤ 9223372036854775807 := by omega
                have q1 : 48 ≤ (c : Int) := by omega
                have q2 : (c : Int) ≤ 57 := by omega
                have q3 : ((c : Int) == 45) = false := by simp; omega
                have q4 : decide ((c : Int) < 48) = false := decide_eq_false (by omega)
                have q5 : decide (57 < (c : Int)) = false := decide_eq_false (by omega)
                have q6 : j = 0 → 1 < D.size → ((c : Int) == 48) = false := fun h h2 => by have := hld2 h (by have := Hsz.out; omega); simp; omega
                have Q6 := Lib.hid q6
                rw [hcc] at b1 b2 q1 q2 q3 q4 q5
                have Hcc := Lib.hid hcc
                clear hc hps hle hld2 hd hd10 hub hβ2 q6 Hβ hcc
                by_cases h48 : ((c : Int) == 48) = true
                · by_cases hj0 : j = 0
                  · subst hj0
                    have h1s : ¬ 1 < D.size := fun h => by rw [Q6.out rfl h] at h48; cases h48
                    have q8 : decide (1 < (D.size : Int)) = false := decide_eq_false (by omega)
                    have q9 : decide (1 < D.size) = false := decide_eq_false h1s
                    rw [Hcc.out] at h48
                    go_wp2_with fail
                    go_round
                    case rel => exact ⟨1, by omega, rfl, congrArg (Value.int .i64) (by rw [← hnew.out, Hcc.out])⟩
                    case measure => simp [intOf]; omega
                  · have q8 : ((j : Int) == 0) = false := by simp; omega
                    rw [Hcc.out] at h48
                    by_cases hj1 : ((j : Int) == 1) = true
                    · go_wp2_with fail
                      go_round
                      case rel => exact ⟨j + 1, by omega, by go_num, congrArg (Value.int .i64) (by rw [← hnew.out, Hcc.out])⟩
                      case measure => simp [intOf]; omega
                    · have hj1' : ((j : Int) == 1) = false := by simpa using hj1
                      clear hj1
                      go_wp2_with fail
                      go_round
                      case rel => exact ⟨j + 1, by omega, by go_num, congrArg (Value.int .i64) (by rw [← hnew.out, Hcc.out])⟩
                      case measure => simp [intOf]; omega
                · have h48' : ((c : Int) == 48) = false := by simpa using h48
                  rw [Hcc.out] at h48'
                  clear h48
                  go_wp2_with fail
                  go_round
                  case rel => exact ⟨j + 1, by omega, by go_num, congrArg (Value.int .i64) (by rw [← hnew.out, Hcc.out])⟩
                  case measure => simp [intOf]; omega
              · have hf : Hid (β = n) := Lib.hid (by
                  have e : L - j = 0 := by have := Hsz.out; omega
                  have := Hun.out
                  have h2 := Hβ.out
                  rw [e, Nat.pow_zero, Nat.div_one] at h2
                  omega)
                have hbn : (β == n) = true := by rw [hf.out]; simp
                go_wp2_with fail
                refine hkn.out.mono ?_
                rintro e w5 ⟨rfl, b5⟩
                have B5 := Lib.hid b5
                clear b5
                go_wp2_with fail
                go_ret
                exact ⟨by show Ending.returned (.bool (!decide (n < 0))) = _; rw [decide_eq_false (by omega : ¬ n < 0)]; rfl, B5.out⟩
end Go.Proofs.YtabhkfpglhfiiaaDoor
