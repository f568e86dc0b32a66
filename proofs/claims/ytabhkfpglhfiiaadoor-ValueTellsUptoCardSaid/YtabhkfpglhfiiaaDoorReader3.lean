/-
  Package wire's reader: what is read.
-/
import Derived.Test.YtabhkfpglhfiiaaDoorReader2
namespace Go.Proofs.YtabhkfpglhfiiaaDoor
open Go.RowKit
theorem getR_lt (R : RS) (n : Nat) : R.get n < 256 ^ n := by
  have h := num_lt (R.takeL n)
  exact Nat.lt_of_lt_of_le h (Nat.pow_le_pow_right (by decide) (takeL_len R n))
theorem wrap_i64_nat (n : Nat) (h : n < 9223372036854775808) : wrap64 (n : Int) = n := by unfold wrap64; omega
def i64 (n : Nat) : Int := wrap64 n

theorem rByte (S : Nat → Prop) (g : Nat) (R : RS) (w : World) (hR : Rd w S g R) :
    Calls Tryd.prog 27 #[.pointer (some ⟨g, 0, none⟩)] w fun e w' => e = .returned (.int .i64 (R.get 1 : Nat)) ∧ Rd w' S g (R.take 1) ∧ Out (fun k => k = g) w w' := by
  have hp : Hid (Calls Tryd.prog 45 #[.pointer (some ⟨g, 0, none⟩), .int .i64 1] w fun e w' => e = .returned (.int .u64 (R.get 1)) ∧ Rd w' S g (R.take 1) ∧ Out (fun k => k = g) w w') := Lib.hid (get_any S g R 1 (by decide) (by decide) w hR)
  have hb : Hid (wrap64 (R.get 1 : Nat) = (R.get 1 : Nat)) := Lib.hid (wrap_i64_nat _ (by have := getR_lt R 1; omega))
  generalize R.get 1 = x at *
  generalize R.take 1 = R' at *
  clear hR
  go_enter Tryd.func27, Tryd.ntmps27
  go_wp2_with fail
  refine hp.out.mono ?_
  rintro e w1 ⟨rfl, h1, h2⟩
  go_wp2
  rw [hb.out]
  go_ret
  exact ⟨rfl, h1, h2⟩
theorem rShort (S : Nat → Prop) (g : Nat) (R : RS) (w : World) (hR : Rd w S g R) :
    Calls Tryd.prog 46 #[.pointer (some ⟨g, 0, none⟩)] w fun e w' => e = .returned (.int .i64 (R.get 2 : Nat)) ∧ Rd w' S g (R.take 2) ∧ Out (fun k => k = g) w w' := by
  have hp : Hid (Calls Tryd.prog 45 #[.pointer (some ⟨g, 0, none⟩), .int .i64 2] w fun e w' => e = .returned (.int .u64 (R.get 2)) ∧ Rd w' S g (R.take 2) ∧ Out (fun k => k = g) w w') := Lib.hid (get_any S g R 2 (by decide) (by decide) w hR)
  have hb : Hid (wrap64 (R.get 2 : Nat) = (R.get 2 : Nat)) := Lib.hid (wrap_i64_nat _ (by have := getR_lt R 2; omega))
  generalize R.get 2 = x at *
  generalize R.take 2 = R' at *
  clear hR
  go_enter Tryd.func46, Tryd.ntmps46
  go_wp2_with fail
  refine hp.out.mono ?_
  rintro e w1 ⟨rfl, h1, h2⟩
  go_wp2
  rw [hb.out]
  go_ret
  exact ⟨rfl, h1, h2⟩
theorem rLong (S : Nat → Prop) (g : Nat) (R : RS) (w : World) (hR : Rd w S g R) :
    Calls Tryd.prog 28 #[.pointer (some ⟨g, 0, none⟩)] w fun e w' => e = .returned (.int .i64 (i64 (R.get 8))) ∧ Rd w' S g (R.take 8) ∧ Out (fun k => k = g) w w' := by
  have hp : Hid (Calls Tryd.prog 45 #[.pointer (some ⟨g, 0, none⟩), .int .i64 8] w fun e w' => e = .returned (.int .u64 (R.get 8)) ∧ Rd w' S g (R.take 8) ∧ Out (fun k => k = g) w w') := Lib.hid (get_any S g R 8 (by decide) (by decide) w hR)
  generalize R.get 8 = x at *
  generalize R.take 8 = R' at *
  clear hR
  go_enter Tryd.func28, Tryd.ntmps28
  go_wp2_with fail
  refine hp.out.mono ?_
  rintro e w1 ⟨rfl, h1, h2⟩
  go_wp2
  go_ret
  exact ⟨rfl, h1, h2⟩

theorem rRefused (S : Nat → Prop) (g : Nat) (R : RS) (w : World) (hR : Rd w S g R) :
    Calls Tryd.prog 31 #[.pointer (some ⟨g, 0, none⟩)] w fun e w' => e = .returned (.bool (R.why != 0)) ∧ w' = w := by
  obtain ⟨hSg, h1, h2, v, hg, hv⟩ := id hR
  obtain ⟨⟨c0, c1, c2, c3⟩, f1, f2, f3⟩ := cell4 hg
  clear hR hg hv c0 c1 c3
  go_enter Tryd.func31, Tryd.ntmps31
  go_wp2
  go_ret
  exact ⟨rfl, rfl⟩

/-- a refusal where the reader stands (the reason is not 0) -/
theorem rFail (S : Nat → Prop) (g : Nat) (R : RS) (why : Int) (hw : (why != 0) = true) (w : World) (hR : Rd w S g R) :
    Calls Tryd.prog 30 #[.pointer (some ⟨g, 0, none⟩), .int .i64 why] w fun e w' => e = .returned (.tuple #[]) ∧ Rd w' S g (R.refuse why R.at_) ∧ Out (fun k => k = g) w w' := by
  have hp := Lib.hid (refuse_any S g R why R.at_ w hR)
  obtain ⟨hSg, h1, h2, v, hg, hv⟩ := id hR
  obtain ⟨⟨c0, c1, c2, c3⟩, f1, f2, f3⟩ := cell4 hg
  clear hR hg hv c0 c2 c3
  go_enter Tryd.func30, Tryd.ntmps30
  go_wp2_with fail
  refine hp.out.mono ?_
  rintro e w1 ⟨rfl, h1, h2⟩
  go_wp2
  refine bodyPost_end (results_none rfl _ _ _) rfl ?_
  exact ⟨rfl, h1, h2⟩

def RS.endE (R : RS) : Int := if (R.why == 0) = true then (if R.at_ < R.l.length then 11 else 0) else R.why
def RS.endA (R : RS) : Int := if (R.why == 0) = true then (if R.at_ < R.l.length then R.at_ else 0) else R.fin
theorem rEnd (S : Nat → Prop) (g : Nat) (R : RS) (w : World) (hR : Rd w S g R) :
    Calls Tryd.prog 13 #[.pointer (some ⟨g, 0, none⟩)] w fun e w' => e = .returned (.tuple #[.int .i64 R.endE, .int .i64 R.endA]) ∧ Below w.heap.size w w' := by
  obtain ⟨hSg, h1, h2, v, hg, hv⟩ := id hR
  obtain ⟨⟨c0, c1, c2, c3⟩, f1, f2, f3⟩ := cell4 hg
  have hlen : ∃ A c, v = .slice A R.l.length c := by
    rcases hv with ⟨rfl, e⟩ | ⟨b, o, c, rfl, _⟩
    · exact ⟨_, _, by rw [e]; rfl⟩
    · exact ⟨_, _, rfl⟩
  obtain ⟨A, c, rfl⟩ := hlen
  unfold RS.endE RS.endA
  by_cases h0 : (R.why == 0) = true
  · have h0' : (R.why != 0) = false := by simp at h0 ⊢; exact h0
    rw [if_pos h0, if_pos h0]
    by_cases hlt : R.at_ < R.l.length
    · have hd : decide ((R.at_ : Int) < R.l.length) = true := by rw [decide_eq_true_eq]; omega
      rw [if_pos hlt, if_pos hlt]
      clear hv hR hg h0
      go_enter Tryd.func13, Tryd.ntmps13
      go_wp2_with fail
      go_quiet (fail)
      go_wp2_with fail
      go_quiet (fail)
      go_wp2_with fail
      go_ret2
      exact ⟨rfl, rfl, rfl, rfl, Nat.le_refl _, fun _ _ => rfl⟩
    · have hd : decide ((R.at_ : Int) < R.l.length) = false := by rw [decide_eq_false_iff_not]; omega
      rw [if_neg hlt, if_neg hlt]
      clear hv hR hg h0
      go_enter Tryd.func13, Tryd.ntmps13
      go_wp2_with fail
      go_quiet (fail)
      go_wp2_with fail
      go_ret2
      exact ⟨rfl, rfl, rfl, rfl, Nat.le_refl _, fun _ _ => rfl⟩
  · have h0' : (R.why != 0) = true := by simp at h0 ⊢; exact h0
    rw [if_neg h0, if_neg h0]
    clear hv hR hg h0
    go_enter Tryd.func13, Tryd.ntmps13
    go_wp2_with fail
    go_quiet (fail)
    go_wp2_with fail
    go_ret2
    exact ⟨rfl, rfl, rfl, rfl, Nat.le_refl _, fun _ _ => rfl⟩
end Go.Proofs.YtabhkfpglhfiiaaDoor
