/-
  Package wire's reader: a byte in a range.
-/
import Derived.Test.YtabhkfpglhfiiaaReader4a
namespace Go.Proofs.Ytabhkfpglhfiiaa
open Go.RowKit
def RS.fewBad (R : RS) (lo hi : Int) : Bool := (R.take 1).why == 0 && (decide ((R.get 1 : Int) < lo) || decide (hi < (R.get 1 : Int)))
def RS.fewN (R : RS) (lo hi : Int) : Int := if R.fewBad lo hi then 0 else R.get 1
def RS.few (R : RS) (lo hi : Int) : RS := if R.fewBad lo hi then (R.take 1).refuse 3 R.at_ else R.take 1
theorem rFew (S : Nat → Prop) (g : Nat) (R : RS) (lo hi : Int) (w : World) (hR : Rd w S g R) :
    Calls Try.prog 60 #[.pointer (some ⟨g, 0, none⟩), .int .i64 lo, .int .i64 hi] w fun e w' => e = .returned (.int .i64 (R.fewN lo hi)) ∧ Rd w' S g (R.few lo hi) ∧ Out (fun k => k = g) w w' := by
  have hp := Lib.hid (rByte S g R w hR)
  obtain ⟨hSg, h1, h2, v, hg, hv⟩ := id hR
  obtain ⟨⟨c0, c1, c2, c3⟩, f1, f2, f3⟩ := cell4 hg
  unfold RS.fewN RS.few RS.fewBad
  clear hR hg hv c0 c2 c3 f1 f2 f3
  generalize R.get 1 = n at *
  generalize R.take 1 = R' at *
  generalize R.at_ = q at *
  generalize hfn : (if (R'.why == 0 && (decide ((n : Int) < lo) || decide (hi < (n : Int)))) = true then (0 : Int) else (n : Int)) = fn
  generalize hfr : (if (R'.why == 0 && (decide ((n : Int) < lo) || decide (hi < (n : Int)))) = true then R'.refuse 3 q else R') = fr
  have Hfn := Lib.hid hfn
  have Hfr := Lib.hid hfr
  clear hfn hfr
  go_enter Try.func60, Try.ntmps60
  go_wp2_with fail
  refine hp.out.mono ?_
  rintro e w1 ⟨rfl, h3, h4⟩
  have HR := Lib.hid h3
  have HO := Lib.hid h4
  obtain ⟨hSg', h1', h2', v', hg', hv'⟩ := id h3
  obtain ⟨⟨d0, d1, d2, d3⟩, e1, e2, e3⟩ := cell4 hg'
  clear h3 h4 hg' hv' d0 d1 d3 e1 e2 e3 hp
  by_cases h0 : (R'.why == 0) = true
  · by_cases hlo : (n : Int) < lo
    · have hq := Lib.hid (refuse_any S g R' 3 q w1 HR.out)
      have hd : decide ((n : Int) < lo) = true := by rw [decide_eq_true_eq]; exact hlo
      have e5 := Hfn.out
      have e6 := Hfr.out
      rw [h0, hd] at e5 e6
      have e5 : 0 = fn := e5
      have e6 : R'.refuse 3 q = fr := e6
      subst e5 e6
      clear Hfn Hfr
      go_wp2_with fail
      refine hq.out.mono ?_
      rintro e w2 ⟨rfl, h5, h6⟩
      go_wp2_with fail
      go_ret
      exact ⟨rfl, h5, HO.out.trans h6⟩
    · have hd : decide ((n : Int) < lo) = false := by rw [decide_eq_false_iff_not]; exact hlo
      by_cases hhi : hi < (n : Int)
      · have hq := Lib.hid (refuse_any S g R' 3 q w1 HR.out)
        have hd2 : decide (hi < (n : Int)) = true := by rw [decide_eq_true_eq]; exact hhi
        have e5 := Hfn.out
        have e6 := Hfr.out
        rw [h0, hd, hd2] at e5 e6
        have e5 : 0 = fn := e5
        have e6 : R'.refuse 3 q = fr := e6
        subst e5 e6
        clear Hfn Hfr
        go_wp2_with fail
        refine hq.out.mono ?_
        rintro e w2 ⟨rfl, h5, h6⟩
        go_wp2_with fail
        go_ret
        exact ⟨rfl, h5, HO.out.trans h6⟩
      · have hd2 : decide (hi < (n : Int)) = false := by rw [decide_eq_false_iff_not]; exact hhi
        have e5 := Hfn.out
        have e6 := Hfr.out
        rw [h0, hd, hd2] at e5 e6
        have e5 : (n : Int) = fn := e5
        have e6 : R' = fr := e6
        subst e5 e6
        clear Hfn Hfr
        go_wp2_with fail
        go_ret
        exact ⟨rfl, HR.out, HO.out⟩
  · have h0' : (R'.why == 0) = false := by simpa using h0
    have e5 := Hfn.out
    have e6 := Hfr.out
    rw [h0'] at e5 e6
    have e5 : (n : Int) = fn := e5
    have e6 : R' = fr := e6
    subst e5 e6
    clear h0 Hfn Hfr
    go_wp2_with fail
    go_ret
    exact ⟨rfl, HR.out, HO.out⟩
end Go.Proofs.Ytabhkfpglhfiiaa
