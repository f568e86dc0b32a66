/-
  Package wire's reader.
-/
import Derived.Test.YtabhkfpglhfiiaaDoorWriter2
import Derived.BigQuiet
namespace Go.Proofs.YtabhkfpglhfiiaaDoor
open Go.RowKit
structure RS where
  l : List UInt8
  at_ : Nat
  why : Int
  fin : Int
def RS.refuse (R : RS) (why at_ : Int) : RS := if (R.why == 0) = true then { R with why := why, fin := at_ } else R
def RS.takeL (R : RS) (n : Nat) : List UInt8 := if (R.why == 0) = true then (if R.l.length - R.at_ < n then [] else (R.l.drop R.at_).take n) else []
def RS.take (R : RS) (n : Nat) : RS := if (R.why == 0) = true then (if R.l.length - R.at_ < n then R.refuse 10 R.l.length else { R with at_ := R.at_ + n }) else R
/-- bytes that are read while something of S is written -/
def ByR (w : World) (S : Nat → Prop) (v : Value) (l : List UInt8) : Prop := (v = .slice none 0 0 ∧ l = []) ∨ ∃ b o c, v = .slice (some ⟨b, o, none⟩) l.length c ∧ l.length ≤ c ∧ b < w.heap.size ∧ ¬ S b ∧ BAt w b o l
theorem BAt.out {w w' : World} {S : Nat → Prop} {b o : Nat} {l : List UInt8} (h : BAt w b o l) (hw : Out S w w') (hb : ¬ S b) : BAt w' b o l := by
  intro i c hc
  exact (hw.cell hb).trans (h i c hc)
theorem ByR.out {w w' : World} {S : Nat → Prop} {v : Value} {l : List UInt8} (h : ByR w S v l) (hw : Out S w w') : ByR w' S v l := by
  rcases h with h | ⟨b, o, c, rfl, h0, h1, h2, h3⟩
  · exact .inl h
  · exact .inr ⟨b, o, c, rfl, h0, by have := hw.size; omega, h2, h3.out hw h2⟩
theorem ByR.og {w w' : World} {S : Nat → Prop} {g : Nat} {v : Value} {l : List UInt8} (h : ByR w S v l) (hS : S g) (hw : Out (fun k => k = g) w w') : ByR w' S v l :=
  h.out (hw.mono fun k e => by rw [e]; exact hS)
/-- a reader at block g -/
def Rd (w : World) (S : Nat → Prop) (g : Nat) (R : RS) : Prop :=
  S g ∧ R.at_ ≤ R.l.length ∧ R.l.length ≤ 4611686018427387904 ∧ ∃ v, w.heap[g]? = some (.cells #[v, .int .i64 R.at_, .int .i64 R.why, .int .i64 R.fin] 55 (0, 0)) ∧ ByR w S v R.l
theorem set4 {w : World} {g k : Nat} {a b c d u : Value} {t : TypeId} (h : w.heap[g]? = some (.cells #[a, b, c, d] t (0, 0))) : (w.setCell ⟨g, k, none⟩ u).heap[g]? = some (.cells (#[a, b, c, d].set! k u) t (0, 0)) := by
  show (w.heap.modify g _)[g]? = _
  rw [Array.getElem?_modify]
  simp [h]
theorem cell4 {w : World} {g : Nat} {a b c d : Value} {t : TypeId} (h : w.heap[g]? = some (.cells #[a, b, c, d] t (0, 0))) :
    (w.cell? ⟨g, 0, none⟩ = some a ∧ w.cell? ⟨g, 1, none⟩ = some b ∧ w.cell? ⟨g, 2, none⟩ = some c ∧ w.cell? ⟨g, 3, none⟩ = some d) ∧ w.frozen? ⟨g, 1, none⟩ = false ∧ w.frozen? ⟨g, 2, none⟩ = false ∧ w.frozen? ⟨g, 3, none⟩ = false := by
  simp [World.cell?, World.frozen?, h]

theorem refuse_any (S : Nat → Prop) (g : Nat) (R : RS) (why at_ : Int) (w : World) (hR : Rd w S g R) :
    Calls Tryd.prog 47 #[.pointer (some ⟨g, 0, none⟩), .int .i64 why, .int .i64 at_] w fun e w' => e = .returned (.tuple #[]) ∧ Rd w' S g (R.refuse why at_) ∧ Out (fun k => k = g) w w' := by
  obtain ⟨hSg, h1, h2, v, hg, hv⟩ := id hR
  obtain ⟨⟨c0, c1, c2, c3⟩, f1, f2, f3⟩ := cell4 hg
  by_cases h0 : (R.why == 0) = true
  · have e0 : R.refuse why at_ = { R with why := why, fin := at_ } := by rw [RS.refuse, if_pos h0]
    have h3 := set4 (k := 2) (u := .int .i64 why) hg
    have h4 := set4 (k := 3) (u := .int .i64 at_) h3
    have ho : Out (fun k => k = g) w ((w.setCell ⟨g, 2, none⟩ (.int .i64 why)).setCell ⟨g, 3, none⟩ (.int .i64 at_)) := ((Out.refl (fun k => k = g) w).setCell (p := ⟨g, 2, none⟩) rfl _).setCell (p := ⟨g, 3, none⟩) rfl _
    have hfin : Rd ((w.setCell ⟨g, 2, none⟩ (.int .i64 why)).setCell ⟨g, 3, none⟩ (.int .i64 at_)) S g (R.refuse why at_) := by
      rw [e0]
      exact ⟨hSg, h1, h2, v, h4, hv.og hSg ho⟩
    have HF := Lib.hid hfin
    have HO := Lib.hid ho
    clear e0 h3 h4 ho hfin hR hg hv
    go_enter Tryd.func47, Tryd.ntmps47
    go_wp2
    refine bodyPost_end (results_none rfl _ _ _) rfl ?_
    exact ⟨rfl, HF.out, HO.out⟩
  · have e0 : R.refuse why at_ = R := by rw [RS.refuse, if_neg h0]
    have h0' : (R.why == 0) = false := by simpa using h0
    rw [e0]
    have HR := Lib.hid hR
    clear e0 hR hg hv h0
    go_enter Tryd.func47, Tryd.ntmps47
    go_wp2
    refine bodyPost_end (results_none rfl _ _ _) rfl ?_
    exact ⟨rfl, HR.out, Out.refl _ _⟩
theorem BAt.sub {w : World} {b o : Nat} {l : List UInt8} (h : BAt w b o l) (p n : Nat) : BAt w b (o + p) ((l.drop p).take n) := by
  intro i c hc
  rw [List.getElem?_take] at hc
  split at hc
  · rw [List.getElem?_drop] at hc
    have := h _ c hc
    rwa [Nat.add_assoc]
  · cases hc

theorem Out.same {S : Nat → Prop} {w a b : World} (h : Out S w a) (h1 : b.heap = a.heap) (h2 : b.os = a.os) (h3 : b.tape = a.tape) (h4 : b.output = a.output) : Out S w b := ⟨h2.trans h.os, h3.trans h.tape, h4.trans h.output, by rw [h1]; exact h.size, fun k hk => by rw [h1]; exact h.block k hk⟩
theorem out_drewN (S : Nat → Prop) (w : World) (n : Nat) : Out S w (w.drewN n) := ⟨rfl, rfl, rfl, Nat.le_refl _, fun _ _ => rfl⟩
theorem Rd.drewN {w : World} {S : Nat → Prop} {g : Nat} {R : RS} (h : Rd w S g R) (n : Nat) : Rd (w.drewN n) S g R := h
theorem take_any (S : Nat → Prop) (g : Nat) (R : RS) (n : Nat) (hn : n ≤ 4611686018427387904) (hne : R.why = 0 → 0 < n ∨ R.l ≠ []) (w : World) (hR : Rd w S g R) :
    Calls Tryd.prog 48 #[.pointer (some ⟨g, 0, none⟩), .int .i64 n] w fun e w' => ∃ v, e = .returned v ∧ ByR w' S v (R.takeL n) ∧ Rd w' S g (R.take n) ∧ Out (fun k => k = g) w w' := by
  obtain ⟨hSg, h1, h2, v, hg, hv⟩ := id hR
  obtain ⟨⟨c0, c1, c2, c3⟩, f1, f2, f3⟩ := cell4 hg
  by_cases h0 : (R.why == 0) = true
  · have h0' : (R.why != 0) = false := by simp at h0 ⊢; exact h0
    by_cases hlt : R.l.length - R.at_ < n
    · have e1 : R.takeL n = [] := by rw [RS.takeL, if_pos h0, if_pos hlt]
      have e2 : R.take n = R.refuse 10 R.l.length := by rw [RS.take, if_pos h0, if_pos hlt]
      have hd : decide ((R.l.length : Int) - R.at_ < n) = true := by simp; omega
      rw [e1, e2]
      have hq : Hid (∀ nq, _) := Lib.hid fun nq => refuse_any S g R 10 R.l.length (w.drewN nq) (hR.drewN nq)
      have hlen : ∃ A c, v = .slice A R.l.length c := by
        rcases hv with ⟨rfl, e⟩ | ⟨b, o, c, rfl, _⟩
        · exact ⟨_, _, by rw [e]; rfl⟩
        · exact ⟨_, _, rfl⟩
      obtain ⟨A, c, rfl⟩ := hlen
      generalize R.l.length = m at *
      clear hv hR e1 e2 hlt hg h0 hne hn
      go_enter Tryd.func48, Tryd.ntmps48
      go_wp2_with fail
      go_quiet (fail)
      go_wp2_with fail
      refine (hq.out nq).mono ?_
      rintro e w1 ⟨rfl, h3, h4⟩
      go_wp2
      go_ret
      exact ⟨_, rfl, .inl ⟨rfl, rfl⟩, h3, (out_drewN _ w nq).trans h4⟩
    · have e1 : R.takeL n = (R.l.drop R.at_).take n := by rw [RS.takeL, if_pos h0, if_neg hlt]
      have e2 : R.take n = { R with at_ := R.at_ + n } := by rw [RS.take, if_pos h0, if_neg hlt]
      have hd : decide ((R.l.length : Int) - R.at_ < n) = false := by simp; omega
      rcases hv with ⟨rfl, e⟩ | ⟨b, o, c, rfl, hc, hb, hSb, hA⟩
      · have : R.l.length = 0 := by rw [e]; rfl
        exfalso
        rcases hne (by simpa using h0) with h | h
        · omega
        · exact h e
      · have hlen : ((R.l.drop R.at_).take n).length = n := by rw [List.length_take, List.length_drop]; omega
        have h3 := set4 (k := 1) (u := .int .i64 ((R.at_ : Int) + n)) hg
        have h3' := h3
        rw [← Int.natCast_add] at h3'
        have ho : Out (fun k => k = g) w (w.setCell ⟨g, 1, none⟩ (.int .i64 ((R.at_ : Int) + n))) := (Out.refl (fun k => k = g) w).setCell (p := ⟨g, 1, none⟩) rfl _
        have hfin : Rd (w.setCell ⟨g, 1, none⟩ (.int .i64 ((R.at_ : Int) + n))) S g (R.take n) := by
          rw [e2]
          exact ⟨hSg, by show R.at_ + n ≤ R.l.length; omega, h2, _, h3', (ByR.og (.inr ⟨b, o, c, rfl, hc, hb, hSb, hA⟩) hSg ho)⟩
        have hby : ByR (w.setCell ⟨g, 1, none⟩ (.int .i64 ((R.at_ : Int) + n))) S (.slice (some ⟨b, o + R.at_, none⟩) n (c - R.at_)) (R.takeL n) := by
          rw [e1]
          exact .inr ⟨b, o + R.at_, c - R.at_, by rw [hlen], by omega, by simp [World.setCell]; exact hb, hSb, (hA.out (ho.mono fun k e => by rw [e]; exact hSg) hSb).sub _ _⟩
        have hs0 : (R.at_ : Int) + n - n = R.at_ := by omega
        have hs1 : (0 : Int) ≤ (R.at_ : Int) := by omega
        have hs2 : (R.at_ : Int) ≤ (R.at_ : Int) + n := by omega
        have hs3 : (R.at_ : Int) + n ≤ (c : Int) := by omega
        have HF := Lib.hid hfin
        have HO := Lib.hid ho
        have HB := Lib.hid hby
        have HB' : Hid (b < (w.setCell ⟨g, 1, none⟩ (.int .i64 ((R.at_ : Int) + n))).heap.size) := Lib.hid (by simp [World.setCell]; exact hb)
        have e1' := Lib.hid e1
        clear e1 e2 h3 h3' ho hfin hR hg hby hA hlen
        go_enter Tryd.func48, Tryd.ntmps48
        go_wp2_with fail
        go_quiet (fail)
        go_wp2_with fail
        go_quiet (fail)
        go_wp2_with fail
        · have hn0 : n = 0 := by omega
          subst hn0
          have e3 : R.takeL 0 = [] := by rw [e1'.out]; simp
          go_ret
          exact ⟨_, rfl, .inr ⟨b, o, 0, by rw [e3]; rfl, by rw [e3]; exact Nat.le_refl _, HB'.out, hSb, by rw [e3]; intro i c hc; cases hc⟩, HF.out, HO.out.same rfl rfl rfl rfl⟩
        · go_ret
          exact ⟨_, rfl, HB.out, HF.out, HO.out.same rfl rfl rfl rfl⟩
  · have e1 : R.takeL n = [] := by rw [RS.takeL, if_neg h0]
    have e2 : R.take n = R := by rw [RS.take, if_neg h0]
    have h0' : (R.why != 0) = true := by simp at h0 ⊢; exact h0
    rw [e1, e2]
    have HR := Lib.hid hR
    clear e1 e2 hR hg hv h0 hne hn
    go_enter Tryd.func48, Tryd.ntmps48
    go_wp2
    go_ret
    exact ⟨_, rfl, .inl ⟨rfl, rfl⟩, HR.out, Out.refl _ _⟩
end Go.Proofs.YtabhkfpglhfiiaaDoor
