/-
  Package confluenceref4's Quote and Show: the same texts as value's Show.
-/
import Derived.Test.YtabhkfpglhfiiaaDoorDigits
import Derived.Test.YtabhkfpglhfiiaaDoorRef4
namespace Go.Proofs.YtabhkfpglhfiiaaDoor
open Go.RowKit
theorem hexs_fin : ∀ i : Fin 16, (ByteArray.mk #[48, 49, 50, 51, 52, 53, 54, 55, 56, 57, 97, 98, 99, 100, 101, 102]).extract i.val (i.val + 1) = ⟨#[hexD i.val]⟩ := by decide +kernel
theorem q_esc (cs : List UInt8) (c : UInt8) : (ByteArray.mk cs.toArray) ++ ⟨#[92]⟩ ++ (ByteArray.mk #[48, 49, 50, 51, 52, 53, 54, 55, 56, 57, 97, 98, 99, 100, 101, 102]).extract (c.toNat / 16) (c.toNat / 16 + 1) ++ (ByteArray.mk #[48, 49, 50, 51, 52, 53, 54, 55, 56, 57, 97, 98, 99, 100, 101, 102]).extract (c.toNat % 16) (c.toNat % 16 + 1) = ⟨(cs ++ [92, hexD (c.toNat / 16), hexD (c.toNat % 16)]).toArray⟩ := by
  rw [hexs_fin ⟨c.toNat / 16, by have := c.toNat_lt; omega⟩, hexs_fin ⟨c.toNat % 16, by omega⟩]
  apply ByteArray.ext
  simp
theorem one_extract (s : ByteArray) (j : Nat) (h : j < s.size) : s.extract j (j + 1) = ⟨#[s[j]]⟩ := by
  apply ByteArray.ext
  rw [ByteArray.data_extract]
  apply Array.ext'
  have h' : j < s.data.toList.length := h
  simp [List.extract, List.drop_eq_getElem_cons h']
  rfl
theorem q_one (cs : List UInt8) (s : ByteArray) (j : Nat) (h : j < s.size) : (ByteArray.mk cs.toArray) ++ s.extract j (j + 1) = ⟨(cs ++ [s[j]]).toArray⟩ := by
  rw [one_extract s j h]
  apply ByteArray.ext
  simp
set_option maxRecDepth 100000 in
set_option maxHeartbeats 1000000 in
theorem quote_any (s : ByteArray) (hs : s.size ≤ 100) (w : World) :
    Calls Tryd.prog 43 #[.string s] w fun e w' => e = .returned (.string ⟨(quoteL s.data.toList).toArray⟩) ∧ Below w.heap.size w w' := by
  go_enter Tryd.func43, Tryd.ntmps43
  go_wp2_with fail
  go_loopw [3, 4] (fun o i wr => ∃ (j : Nat) (cs : List UInt8), j ≤ s.size ∧ i = .int .i64 j ∧ o = .string ⟨cs.toArray⟩ ∧ Hid (cs = 34 :: (s.data.toList.take j).flatMap qB) ∧ Below w.heap.size w wr) (fun _ i _ => s.size - (intOf i).toNat)
  case atStart => exact ⟨0, [34], Nat.zero_le _, rfl, rfl, Lib.hid rfl, Below.refl _ _⟩
  case round =>
    obtain ⟨j, cs, hj, rfl, rfl, hcs, hb⟩ := hrel
    have HB := Lib.hid hb
    have hlen : cs.length ≤ 400 := by
      rw [hcs.out]
      have := fq_le (s.data.toList.take j)
      have h2 : (s.data.toList.take j).length ≤ j := List.length_take_le _ _
      simp only [List.length_cons]
      omega
    clear hb
    by_cases hlt : j < s.size
    · have hst : Hid (cs ++ qB s[j] = 34 :: (s.data.toList.take (j + 1)).flatMap qB) := Lib.hid (by rw [hcs.out, take_q s j hlt]; rfl)
      clear hcs
      obtain ⟨pc, hpc⟩ : ∃ pc, pc = plainC s[j] := ⟨_, rfl⟩
      have Hpc := Lib.hid hpc
      clear hpc
      have hi0 : (0 : Int) ≤ (j : Int) := by omega
      have hi1 : (j : Int) < (s.size : Int) := by omega
      go_upto_region 6 with (fail)
      go_cut [28] (fun s28 wx => s28 = .bool (!pc) ∧ wx = wr)
      case first =>
        by_cases p1 : (s[j].toNat : Int) < 32
        · obtain rfl : pc = false := by rw [Hpc.out, plainC, decide_eq_false (by omega : ¬ 32 ≤ (s[j].toNat : Int))]; rfl
          clear Hpc
          go_wp2_with fail
          go_meet
          exact ⟨rfl, rfl⟩
        · by_cases p2 : 126 < (s[j].toNat : Int)
          · obtain rfl : pc = false := by rw [Hpc.out, plainC, decide_eq_false (by omega : ¬ (s[j].toNat : Int) ≤ 126)]; simp
            clear Hpc
            go_wp2_with fail
            go_meet
            exact ⟨rfl, rfl⟩
          · by_cases p3 : ((s[j].toNat : Int) == 34) = true
            · obtain rfl : pc = false := by rw [Hpc.out, plainC, bne, p3]; simp
              clear Hpc
              go_wp2_with fail
              go_meet
              exact ⟨rfl, rfl⟩
            · have p3' : ((s[j].toNat : Int) == 34) = false := by simpa using p3
              obtain rfl : pc = !((s[j].toNat : Int) == 92) := by rw [Hpc.out, plainC, decide_eq_true (by omega : 32 ≤ (s[j].toNat : Int)), decide_eq_true (by omega : (s[j].toNat : Int) ≤ 126), bne, bne, p3']; rfl
              clear Hpc p3
              go_wp2_with fail
              go_meet
              exact ⟨by rw [Bool.not_not], rfl⟩
      case rest =>
      obtain ⟨rfl, hwc⟩ := hcut
      obtain rfl : wr = wc := hwc.symm
      clear hwc
      cases pc
      · have hq : Hid (qB s[j] = [92, hexD (s[j].toNat / 16), hexD (s[j].toNat % 16)]) := Lib.hid (by unfold qB; rw [← Hpc.out]; rfl)
        have c0 : (0 : Int) ≤ (s[j].toNat : Int) := by omega
        have c1 : (s[j].toNat : Int) < 256 := by have := s[j].toNat_lt; omega
        have c2 : (0 : Int) ≤ (s[j].toNat : Int) / 16 := by omega
        have c3 : (s[j].toNat : Int) / 16 < 16 := by omega
        have c4 : (0 : Int) ≤ (s[j].toNat : Int) % 16 := by omega
        have c5 : (s[j].toNat : Int) % 16 < 16 := by omega
        have x3 := and15 s[j]
        go_wp2_with fail
        go_quiet (fail)
        go_wp2_with fail
        go_roundw
        case rel => exact ⟨j + 1, cs ++ qB s[j], by omega, by go_num, by rw [hq.out, q_esc], hst, below_drewN HB.out _⟩
        case measure => simp [intOf]; omega
      · have hq : Hid (qB s[j] = [s[j]]) := Lib.hid (by unfold qB; rw [← Hpc.out]; rfl)
        go_wp2_with fail
        go_roundw
        case rel => exact ⟨j + 1, cs ++ qB s[j], by omega, by go_num, by rw [hq.out, q_one], hst, HB.out⟩
        case measure => simp [intOf]; omega
    · obtain rfl : j = s.size := by omega
      have hend : Hid (cs ++ [34] = quoteL s.data.toList) := Lib.hid (by rw [hcs.out, List.take_of_length_le (by simp)]; rfl)
      clear hcs
      go_wp2_with fail
      go_ret
      refine ⟨?_, HB.out⟩
      show Ending.returned (Value.string (_ ++ _)) = _
      rw [← hend.out]
      have e : (ByteArray.mk cs.toArray) ++ ⟨#[34]⟩ = ⟨(cs ++ [34]).toArray⟩ := by apply ByteArray.ext; simp
      rw [e]

theorem ok_text {k n : Int} {s : ByteArray} (hok : V.okB ⟨k, n, s⟩ = true) (hk : (k == 1) = false) : (k == 2) = true ∧ s.size ≤ 40 := by
  unfold V.okB at hok
  rw [show ((V.mk k n s).k == 1) = false from hk, Bool.false_and, Bool.false_or] at hok
  simp only [Bool.and_eq_true, decide_eq_true_eq] at hok
  exact ⟨hok.1, by have := hok.2.2; omega⟩
set_option maxRecDepth 100000 in
theorem ref4_show (k n : Int) (s : ByteArray) (h0 : -9223372036854775808 ≤ n) (h1 : n ≤ 9223372036854775807) (w : World) :
    Calls Tryd.prog 23 #[.agg #[.int .i64 k, .int .i64 n, .string s]] w fun e w' => e = .returned (.string ⟨(showL ⟨k, n, s⟩).toArray⟩) ∧ Below w.heap.size w w' := by
  have hr := Lib.hid (ref4_right k n s)
  cases hok : V.okB ⟨k, n, s⟩
  · have e0 : showL ⟨k, n, s⟩ = [63] := by unfold showL; rw [hok]; rfl
    rw [hok] at hr
    rw [e0]
    clear hok e0
    go_enter Tryd.func23, Tryd.ntmps23
    go_wp2_with fail
    refine (hr.out _).mono ?_
    rintro e w' ⟨rfl, rfl⟩
    go_wp2_with fail
    go_ret
    exact ⟨rfl, ((Below.refl _ _).alloc (Nat.le_refl _) _).alloc (by simp) _⟩
  · cases hk : (k == 1)
    · have e0 : Hid (showL ⟨k, n, s⟩ = quoteL s.data.toList) := Lib.hid (by unfold showL; rw [hok]; simp only [hk]; rfl)
      have hq := Lib.hid (quote_any s (by have := (ok_text hok hk).2; omega))
      rw [hok] at hr
      clear hok
      go_enter Tryd.func23, Tryd.ntmps23
      go_wp2_with fail
      refine (hr.out _).mono ?_
      rintro e w' ⟨rfl, rfl⟩
      go_wp2_with fail
      refine (hq.out _).mono ?_
      rintro e w2 ⟨rfl, b2⟩
      have B2 := Lib.hid ((((Below.refl w.heap.size w).alloc (Nat.le_refl _) _).alloc (by simp) _).trans (b2.mono (by simp; omega)))
      clear b2
      go_wp2_with fail
      go_ret
      exact ⟨by rw [e0.out]; rfl, B2.out⟩
    · have e0 : Hid (showL ⟨k, n, s⟩ = Lib.itoa n) := Lib.hid (by unfold showL; rw [hok]; simp only [hk]; rfl)
      have hq := Lib.hid (digits_any n h0 h1)
      rw [hok] at hr
      clear hok
      go_enter Tryd.func23, Tryd.ntmps23
      go_wp2_with fail
      refine (hr.out _).mono ?_
      rintro e w' ⟨rfl, rfl⟩
      go_wp2_with fail
      refine (hq.out _).mono ?_
      rintro e w2 ⟨rfl, rfl⟩
      go_wp2_with fail
      go_ret
      exact ⟨by rw [e0.out]; rfl, ((Below.refl w.heap.size w).alloc (Nat.le_refl _) _).alloc (by simp) _⟩
set_option maxRecDepth 100000 in
theorem value_show (k n : Int) (s : ByteArray) (h0 : -9223372036854775808 ≤ n) (h1 : n ≤ 9223372036854775807) (B : Nat) (w : World) (hB : B ≤ w.heap.size) (hT : Lib.TabBelow Tryd.prog B w "internal/strconv.uint64pow10" .u64 Lib.pow10Tab) :
    Calls Tryd.prog 7 #[.agg #[.int .i64 k, .int .i64 n, .string s]] w fun e w' => e = .returned (.string ⟨(showL ⟨k, n, s⟩).toArray⟩) ∧ Below w.heap.size w w' := by
  have hr := Lib.hid (value_right k n s)
  cases hok : V.okB ⟨k, n, s⟩
  · have e0 : showL ⟨k, n, s⟩ = [63] := by unfold showL; rw [hok]; rfl
    rw [hok] at hr
    rw [e0]
    clear hok e0 hT
    go_enter Tryd.func7, Tryd.ntmps7
    go_wp2_with fail
    refine (hr.out _).mono ?_
    rintro e w' ⟨rfl, rfl⟩
    go_wp2_with fail
    go_ret
    exact ⟨rfl, ((Below.refl _ _).alloc (Nat.le_refl _) _).alloc (by simp) _⟩
  · cases hk : (k == 1)
    · have e0 : showL ⟨k, n, s⟩ = quoteL s.data.toList := by unfold showL; rw [hok]; simp only [hk]; rfl
      rw [e0]
      exact show_text s (ok_text hok hk).2 n k (ok_text hok hk).1 hok w
    · have e0 : Hid (showL ⟨k, n, s⟩ = Lib.itoa n) := Lib.hid (by unfold showL; rw [hok]; simp only [hk]; rfl)
      have hb2 : Below w.heap.size w ((w.alloc (.cells #[.int .i64 k, .int .i64 n, .string s] 24)).alloc (.cells #[.int .i64 k, .int .i64 n, .string s] 24)) := ((Below.refl _ _).alloc (Nat.le_refl _) _).alloc (by simp) _
      have hq := Lib.hid (Tryd.strconv_FormatInt_10 n h0 h1 _ (hT _ (hb2.mono hB)))
      have HB2 := Lib.hid hb2
      rw [hok] at hr
      clear hok hT hb2
      go_enter Tryd.func7, Tryd.ntmps7
      go_wp2_with fail
      refine (hr.out _).mono ?_
      rintro e w' ⟨rfl, rfl⟩
      go_wp2_with fail
      refine hq.out.mono ?_
      rintro e w2 ⟨rfl, q, os, rfl⟩
      have B2 := Lib.hid (HB2.out.trans (Lib.below_grow w.heap.size _ HB2.out.size q os))
      go_wp2_with fail
      go_ret
      exact ⟨by rw [e0.out]; rfl, B2.out⟩
end Go.Proofs.YtabhkfpglhfiiaaDoor
