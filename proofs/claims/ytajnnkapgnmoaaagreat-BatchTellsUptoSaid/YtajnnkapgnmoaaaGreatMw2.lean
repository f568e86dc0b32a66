/-
  slices.symMergeCmpFunc at items: two sorted runs become one.
-/
import Derived.Test.YtajnnkapgnmoaaaGreatMw1
import Derived.Deep.DeepCutAuto
set_option linter.unusedVariables false
set_option linter.unusedSimpArgs false
namespace Go.Proofs.YtajnnkapgnmoaaaGreat
open Go.RowKit Go.Sort
variable {α : Type} [Inhabited α] {f : α → ItemC} {w0 : World} {blk off : Nat} {d0 : Array α} {cf : α → α → Int}

def MergeEnd (f : α → ItemC) (w0 : World) (blk off : Nat) (cf : α → α → Int) (a m b : Nat) (d : Array α) (e : Ending) (w' : World) : Prop :=
  e = .returned (.tuple #[]) ∧ ∃ d', Sym (ltOf cf) a m b d d' ∧ SWK (fun x => (f x).enc) 2 w0 blk off d' w'

set_option maxHeartbeats 4000000 in
set_option maxRecDepth 1000000 in
theorem symMerge_step (R : RowK (fun x => (f x).enc) 2 w0 blk off d0) (hC : CmpB f cf w0 blk off d0.size) (hlt : SWO (ltOf cf)) (cap a m b : Nat) (d : Array α) (hs : d.size = d0.size) (w : World) (S : SWK (fun x => (f x).enc) 2 w0 blk off d w) (ham : a + 1 < m) (hmb : m + 1 < b) (hb : b ≤ d.size) (hsz : d.size ≤ 1099511627776)
    (ih : ∀ (a' m' b' : Nat) (d' : Array α) (w' : World), b' - a' < b - a → a' < m' → m' < b' → b' ≤ d'.size → d'.size = d.size → SWK (fun x => (f x).enc) 2 w0 blk off d' w' →
      Calls Tryz.prog 138 #[.slice (some ⟨blk, off, none⟩) d.size cap, .int .i64 a', .int .i64 m', .int .i64 b', .func (.func 81) #[] #[]] w' (MergeEnd f w0 blk off cf a' m' b' d')) :
    Calls Tryz.prog 138 #[.slice (some ⟨blk, off, none⟩) d.size cap, .int .i64 a, .int .i64 m, .int .i64 b, .func (.func 81) #[] #[]] w (MergeEnd f w0 blk off cf a m b d) := by
  have S0 : Aside (SWK (fun x => (f x).enc) 2 w0 blk off d w) := S
  have HS : Hid (d.size = d0.size) := hs
  have HC : Aside _ := hC
  have IH : Aside _ := ih
  clear S hs hC ih
  have mixed : Tryz.prog.follows .mixedOrders = true := by kernel_rfl
  have em : ((m : Int) - (a : Int) == 1) = false := by simp; omega
  have em2 : ((b : Int) - (m : Int) == 1) = false := by simp; omega
  obtain ⟨mid, emid, md1, md2, md3⟩ : ∃ mid : Nat, ((a : Int) + (b : Int)) / 2 = (mid : Int) ∧ a < mid ∧ mid < b ∧ (mid + mid ≤ a + b ∧ a + b ≤ mid + mid + 1) := ⟨(a + b) / 2, by omega, by omega, by omega, by omega⟩
  obtain ⟨lo, hi, hl1, hl2, hl3, hl4, hl5, hlo, hhi, hcase⟩ : ∃ lo hi : Nat, a ≤ lo ∧ lo ≤ hi ∧ hi ≤ m ∧ hi ≤ mid ∧ mid + m ≤ lo + b ∧ Hid (lo = a ∨ lo + b = mid + m) ∧ Hid (hi = m ∨ hi = mid) ∧ Hid ((mid < m ∧ (lo : Int) = mid + m - b ∧ hi = mid) ∨ (m ≤ mid ∧ lo = a ∧ hi = m)) := by
    by_cases h : mid < m
    · exact ⟨mid + m - b, mid, by omega, by omega, by omega, by omega, by omega, Lib.hid (.inr (by omega)), Lib.hid (.inr rfl), Lib.hid (.inl ⟨h, by omega, rfl⟩)⟩
    · exact ⟨a, m, by omega, by omega, by omega, by omega, by omega, Lib.hid (.inl rfl), Lib.hid (.inl rfl), Lib.hid (.inr ⟨by omega, rfl, rfl⟩)⟩
  obtain ⟨p, ep, ep2⟩ : ∃ p : Nat, (mid : Int) + (m : Int) - 1 = (p : Int) ∧ p + 1 = mid + m := ⟨mid + m - 1, by omega, by omega⟩
  have hpb : p ≤ 2199023255552 := by omega
  have HEP : Hid (p + 1 = mid + m) := ep2
  clear ep2
  go_enter Tryz.func138, Tryz.ntmps138
  go_upto_if 140 with (fail)
  go_cut [20, 21] (fun s20 s21 wx => s20 = .int .i64 lo ∧ s21 = .int .i64 hi ∧ wx = w)
  case first =>
    as_aux_lemma =>
      rcases hcase.out with ⟨h1, h2, h3⟩ | ⟨h1, h2, h3⟩
      · have h1' : (mid : Int) < (m : Int) := by omega
        have e1 := h2.symm
        clear h2
        subst h3
        go_wp2_with fail
        go_meet
        exact ⟨rfl, rfl, rfl⟩
      · have h1' : ¬ (mid : Int) < (m : Int) := by omega
        subst h2 h3
        go_wp2_with fail
        go_meet
        exact ⟨rfl, rfl, rfl⟩
  case rest =>
  obtain ⟨rfl, rfl, hwc⟩ := hcut
  obtain rfl : w = wc := hwc.symm
  clear hwc hcase
  go_wp2
  go_loopg [20, 21] (hi - lo) (fun kx s20 s21 wr => ∃ (i j : Nat), s20 = .int .i64 i ∧ s21 = .int .i64 j ∧ lo ≤ i ∧ i ≤ j ∧ j ≤ hi ∧ j - i ≤ kx ∧ Aside (SWK (fun x => (f x).enc) 2 w0 blk off d wr) ∧ Hid (i = lo ∨ ltOf cf d[mid + m - i]! d[i - 1]! = false) ∧ Hid (j = hi ∨ ltOf cf d[mid + m - j - 1]! d[j]! = true))
  case atStart => exact ⟨lo, hi, rfl, rfl, Nat.le_refl _, hl2, Nat.le_refl _, Nat.le_refl _, S0, Lib.hid (.inl rfl), Lib.hid (.inl rfl)⟩
  case round =>
    clear S0
    obtain ⟨i, j, rfl, rfl, hmi, hij, hjb, hkx, S1, HI, HJ⟩ := hrel
    by_cases hlt2 : i < j
    · have hltz : (i : Int) < (j : Int) := by omega
      obtain ⟨h, eh, b1, b2⟩ : ∃ h : Nat, ((i : Int) + (j : Int)) / 2 = (h : Int) ∧ i ≤ h ∧ h < j := ⟨(i + j) / 2, by omega, by omega, by omega⟩
      have b3 : h < d.size := by omega
      obtain ⟨q, eq, b4, hq⟩ : ∃ q : Nat, (p : Int) - (h : Int) = (q : Int) ∧ q < d.size ∧ Hid (q + h = p) := ⟨p - h, by have := HEP.out; omega, by have := HEP.out; omega, Lib.hid (by have := HEP.out; omega)⟩
      have rq : IntKind.i64.wrap (q : Int) = (q : Int) := by rw [IntKind.wrap_i64]; omega
      have rq2 : IntKind.i64.wrap ((p : Int) - (h : Int)) = (q : Int) := by rw [eq]; exact rq
      obtain ⟨t, u, r, HLT, hcell, hcall⟩ := cmp_step S1.out R HC.out HS.out q h b4 b3
      have z1 := fun n os => (hcell n os).1
      have z2 := fun n os => (hcell n os).2.1
      have z3 := fun n os => (hcell n os).2.2.1
      have z4 := fun n os => (hcell n os).2.2.2
      have HCL := Lib.hid hcall
      clear hcell hcall
      obtain ⟨A1, n1, c1, x1, y1⟩ := t
      obtain ⟨A2, n2, c2, x2, y2⟩ := u
      dsimp only at z1 z2 z3 z4 HCL
      by_cases hl : r < 0
      · rw [decide_eq_true hl] at HLT
        go_wp2_with fail
        refine wp_region_quiet_below (by assumption) (by kernel_rfl) ?_
        repeat (quiet_step (first | (go_at_call 81; refine (HCL.out _ _))))
        refine wpQuiet_nil ?_
        intro _ hw'
        obtain ⟨⟨nq, osq⟩, hw''⟩ := hw'
        subst hw''
        have S2 : Aside (SWK (fun x => (f x).enc) 2 w0 blk off d (grow (redrawn wr nq) osq)) := swk_regrown HC.out.z S1.out nq osq
        clear S1 z1 z2 z3 z4 HCL
        generalize grow (redrawn wr nq) osq = wy at S2 ⊢
        go_wp2
        go_roundg (h - i)
        case measure => omega
        case rel => exact ⟨i, h, rfl, rfl, hmi, b1, by omega, Nat.le_refl _, S2, HI, Lib.hid (.inr (by
          have := HEP.out
          have := hq.out
          rw [show mid + m - h - 1 = q by omega]
          exact HLT.out))⟩
      · rw [decide_eq_false hl] at HLT
        have dl : decide (r < 0) = false := decide_eq_false hl
        go_wp2_with fail
        refine wp_region_quiet_below (by assumption) (by kernel_rfl) ?_
        repeat (quiet_step (first | (go_at_call 81; refine (HCL.out _ _))))
        refine wpQuiet_nil ?_
        intro _ hw'
        obtain ⟨⟨nq, osq⟩, hw''⟩ := hw'
        subst hw''
        have S2 : Aside (SWK (fun x => (f x).enc) 2 w0 blk off d (grow (redrawn wr nq) osq)) := swk_regrown HC.out.z S1.out nq osq
        clear S1 z1 z2 z3 z4 HCL
        generalize grow (redrawn wr nq) osq = wy at S2 ⊢
        go_wp2
        go_roundg (j - (h + 1))
        case measure => omega
        case rel => exact ⟨h + 1, j, by go_num, rfl, by omega, by omega, hjb, Nat.le_refl _, S2, Lib.hid (.inr (by
          have := HEP.out
          have := hq.out
          rw [show mid + m - (h + 1) = q by omega, Nat.add_sub_cancel]
          exact HLT.out)), HJ⟩
    · obtain rfl : i = j := by omega
      have hltz : ¬ (i : Int) < (i : Int) := by omega
      obtain ⟨e, ee, e1, e2, e3⟩ : ∃ e : Nat, (mid : Int) + (m : Int) - (i : Int) = (e : Int) ∧ m ≤ e ∧ e ≤ b ∧ Hid (i + e = mid + m) := ⟨mid + m - i, by omega, by omega, by omega, Lib.hid (by omega)⟩
      have e4 : mid ≤ e := by have := e3.out; omega
      rw [show mid + m - i = e by omega] at HI HJ
      go_upto_region 39 with (fail)
      go_cut [185] (fun sb wx => sb = .bool (decide (i < m) && decide (m < e)) ∧ wx = wr)
      case first =>
        as_aux_lemma =>
          clear S1
          by_cases c1 : i < m
          · have c1' : (i : Int) < (m : Int) := by omega
            by_cases c2 : m < e
            · have c2' : (m : Int) < (e : Int) := by omega
              go_wp2_with fail
              go_meet
              exact ⟨by rw [decide_eq_true c1, decide_eq_true c2]; rfl, rfl⟩
            · have c2' : ¬ (m : Int) < (e : Int) := by omega
              go_wp2_with fail
              go_meet
              exact ⟨by rw [decide_eq_true c1, decide_eq_false c2]; rfl, rfl⟩
          · have c1' : ¬ (i : Int) < (m : Int) := by omega
            go_wp2_with fail
            go_meet
            exact ⟨by rw [decide_eq_false c1]; rfl, rfl⟩
      case rest =>
      obtain ⟨rfl, hwc⟩ := hcut
      obtain rfl : wr = wc := hwc.symm
      clear hwc
      generalize hQ : (decide (i < m) && decide (m < e)) = qb
      have HQ := Lib.hid hQ
      clear hQ
      go_upto_if 185 with (fail)
      go_cut [24] (fun s24 wx => s24 = .int .i64 e ∧ ∃ dr, Aside (Rot d dr i m e) ∧ Aside (PermIn a b d dr) ∧ Aside (SWK (fun x => (f x).enc) 2 w0 blk off dr wx))
      case first =>
        as_aux_lemma =>
          cases qb
          · have hQ := HQ.out
            have hr : Aside (Rot d d i m e) := by
              rcases Nat.lt_or_ge i m with h1 | h1
              · obtain rfl : m = e := by
                  rw [decide_eq_true h1, Bool.true_and] at hQ
                  have := of_decide_eq_false hQ
                  omega
                exact Rot.noneR d i m (by omega)
              · obtain rfl : i = m := by omega
                exact Rot.noneL d i e e1
            clear hQ
            go_wp2_with fail
            go_meet
            exact ⟨rfl, d, hr, permIn_refl _ _ _, S1⟩
          · have hQ := HQ.out
            rw [Bool.and_eq_true, decide_eq_true_eq, decide_eq_true_eq] at hQ
            have hc := Lib.hid (rotate_any R cap i m e (.func (.func 81) #[] #[]) d HS.out wr S1.out hQ.1 hQ.2 (by omega) hsz)
            clear S1 hQ
            go_wp2_with (go_at_call 145; refine hc.out.mono ?_; rintro e' w2 ⟨rfl, d2, hr, hp, hS⟩)
            go_meet
            exact ⟨rfl, d2, hr, permIn_mono d d2 i e a b (by omega) e2 hb hp, hS⟩
      case rest =>
      clear S1 HQ
      obtain ⟨rfl, dr, HR, HPR, S1⟩ := hcut
      have HDR : Hid (dr.size = d.size) := HR.out.1
      generalize wc = wz at S1 ⊢
      go_upto_region 41 with (fail)
      go_cut [199] (fun sb wx => sb = .bool (decide (a < i) && decide (i < mid)) ∧ wx = wz)
      case first =>
        as_aux_lemma =>
          clear S1
          by_cases c1 : a < i
          · have c1' : (a : Int) < (i : Int) := by omega
            by_cases c2 : i < mid
            · have c2' : (i : Int) < (mid : Int) := by omega
              go_wp2_with fail
              go_meet
              exact ⟨by rw [decide_eq_true c1, decide_eq_true c2]; rfl, rfl⟩
            · have c2' : ¬ (i : Int) < (mid : Int) := by omega
              go_wp2_with fail
              go_meet
              exact ⟨by rw [decide_eq_true c1, decide_eq_false c2]; rfl, rfl⟩
          · have c1' : ¬ (a : Int) < (i : Int) := by omega
            go_wp2_with fail
            go_meet
            exact ⟨by rw [decide_eq_false c1]; rfl, rfl⟩
      case rest =>
      obtain ⟨rfl, hwc⟩ := hcut
      obtain rfl : wz = wc := hwc.symm
      clear hwc
      generalize hQ : (decide (a < i) && decide (i < mid)) = qb
      have HQ := Lib.hid hQ
      clear hQ
      go_upto_if 199 with (fail)
      go_cut [24] (fun s24 wx => s24 = .int .i64 e ∧ ∃ d1, Aside (Sym (ltOf cf) a i mid dr d1 ∨ ((i = a ∨ i = mid) ∧ d1 = dr)) ∧ Aside (SWK (fun x => (f x).enc) 2 w0 blk off d1 wx))
      case first =>
        as_aux_lemma =>
          cases qb
          · have hQ : i = a ∨ i = mid := by
              have hQ := HQ.out
              rcases Nat.lt_or_ge a i with h1 | h1
              · rw [decide_eq_true h1, Bool.true_and] at hQ
                have := of_decide_eq_false hQ
                exact .inr (by omega)
              · exact .inl (by omega)
            have hQ := Lib.hid hQ
            go_wp2_with fail
            go_meet
            exact ⟨rfl, dr, Or.inr ⟨hQ.out, rfl⟩, S1⟩
          · have hQ := HQ.out
            rw [Bool.and_eq_true, decide_eq_true_eq, decide_eq_true_eq] at hQ
            have hc := Lib.hid (IH.out a i mid dr wz (by omega) hQ.1 hQ.2 (by have := HDR.out; omega) HDR.out S1.out)
            clear S1 hQ
            go_wp2_with (go_at_call 138; refine hc.out.mono ?_; rintro e' w2 ⟨rfl, d2, hy, hS⟩)
            go_meet
            exact ⟨rfl, d2, Or.inl hy, hS⟩
      case rest =>
      clear S1 HQ
      obtain ⟨rfl, d1, HY, S1⟩ := hcut
      have HD1 : Hid (d1.size = d.size) := by
        rcases HY.out with h | ⟨_, h⟩
        · exact h.1.1.trans HDR.out
        · show d1.size = d.size
          rw [h]; exact HDR.out
      have fin : ∀ d2, Sym (ltOf cf) mid e b d1 d2 ∨ ((e = mid ∨ e = b) ∧ d2 = d1) → Sym (ltOf cf) a m b d d2 := fun d2 h2 =>
        sym_join hlt HR.out HPR.out (by omega) (by omega) hb (by omega) (by omega) e1 e2 e3.out hl1 hlo.out hhi.out HI.out HJ.out HY.out h2
      have FIN := Lib.hid fin
      clear fin HR HPR HY HI HJ
      generalize wc = wz2 at S1 ⊢
      go_upto_region 43 with (fail)
      go_cut [213] (fun sb wx => sb = .bool (decide (mid < e) && decide (e < b)) ∧ wx = wz2)
      case first =>
        as_aux_lemma =>
          clear S1
          by_cases c1 : mid < e
          · have c1' : (mid : Int) < (e : Int) := by omega
            by_cases c2 : e < b
            · have c2' : (e : Int) < (b : Int) := by omega
              go_wp2_with fail
              go_meet
              exact ⟨by rw [decide_eq_true c1, decide_eq_true c2]; rfl, rfl⟩
            · have c2' : ¬ (e : Int) < (b : Int) := by omega
              go_wp2_with fail
              go_meet
              exact ⟨by rw [decide_eq_true c1, decide_eq_false c2]; rfl, rfl⟩
          · have c1' : ¬ (mid : Int) < (e : Int) := by omega
            go_wp2_with fail
            go_meet
            exact ⟨by rw [decide_eq_false c1]; rfl, rfl⟩
      case rest =>
      obtain ⟨rfl, hwc⟩ := hcut
      obtain rfl : wz2 = wc := hwc.symm
      clear hwc
      generalize hQ : (decide (mid < e) && decide (e < b)) = qb
      have HQ := Lib.hid hQ
      clear hQ
      cases qb
      · have hQ : e = mid ∨ e = b := by
          have hQ := HQ.out
          rcases Nat.lt_or_ge mid e with h1 | h1
          · rw [decide_eq_true h1, Bool.true_and] at hQ
            have := of_decide_eq_false hQ
            exact .inr (by omega)
          · exact .inl (by omega)
        have hQ := Lib.hid hQ
        go_wp2
        go_end0
        exact ⟨rfl, d1, FIN.out d1 (.inr ⟨hQ.out, rfl⟩), S1.out⟩
      · have hQ := HQ.out
        rw [Bool.and_eq_true, decide_eq_true_eq, decide_eq_true_eq] at hQ
        have hc := Lib.hid (IH.out mid e b d1 wz2 (by omega) hQ.1 hQ.2 (by have := HD1.out; omega) HD1.out S1.out)
        clear S1 hQ
        go_wp2_with (go_at_call 138; refine hc.out.mono ?_; rintro e' w2 ⟨rfl, d2, hy, hS⟩)
        go_end0
        exact ⟨rfl, d2, FIN.out d2 (.inl hy), hS⟩

theorem symMerge_any (R : RowK (fun x => (f x).enc) 2 w0 blk off d0) (hC : CmpB f cf w0 blk off d0.size) (hlt : SWO (ltOf cf)) (cap : Nat) : ∀ (N a m b : Nat) (d : Array α) (_ : d.size = d0.size) (w : World) (_ : SWK (fun x => (f x).enc) 2 w0 blk off d w) (_ : a < m) (_ : m < b) (_ : b ≤ d.size) (_ : d.size ≤ 1099511627776) (_ : b - a ≤ N),
    Calls Tryz.prog 138 #[.slice (some ⟨blk, off, none⟩) d.size cap, .int .i64 a, .int .i64 m, .int .i64 b, .func (.func 81) #[] #[]] w (MergeEnd f w0 blk off cf a m b d) := by
  intro N
  induction N with
  | zero => intro a m b d hs w S ham hmb hb hsz hN; omega
  | succ N ih =>
    intro a m b d hs w S ham hmb hb hsz hN
    by_cases h1 : m = a + 1
    · exact symMerge_left R hC hlt cap a m b d hs w S h1 hmb hb hsz
    · by_cases h2 : b = m + 1
      · exact symMerge_right R hC hlt cap a m b d hs w S (by omega) h2 hb hsz
      · refine symMerge_step R hC hlt cap a m b d hs w S (by omega) (by omega) hb hsz fun a' m' b' d' w' h3 h4 h5 h6 h7 h8 => ?_
        have := ih a' m' b' d' (h7.trans hs) w' h8 h4 h5 h6 (by omega) (by omega)
        rwa [h7] at this
end Go.Proofs.YtajnnkapgnmoaaaGreat
