/-
  The evaluator's operations beside the model's: nil, strings, slices, conversions.
-/
import Derived.Test.YtloolljoelngcaaGreatEvD
import Derived.Laws.Strings
set_option linter.unusedVariables false
namespace Go.Proofs.YtloolljoelngcaaGreat
open Go.RowKit
section
variable {P : Program} {μ : Map} {m : Mem} {w : World} {fr : Tr Value} {n : Nat} {a : Act} {o : Oper}

theorem did_nilEq {op : BinOp} {t yt : TypeId} {x y : Operand} (ho : o.op = .binOp op t x y yt) (hF : FrR μ m.next fr n a) {u v : Value} {q : Bool}
    (h1 : opd fr x = some u) (h2 : opd fr y = some v) (h : ((P.underlying t).bind fun d => nilEq d u v) = some q) : (op = .eql → PDid P μ m.next o a (.bool q)) ∧ (op = .neq → PDid P μ m.next o a (.bool !q)) := by
  cases hd : P.underlying t with
  | none => rw [hd] at h; simp at h
  | some d =>
    rw [hd] at h
    have hrun := fun w : World => (nilEq_run (w := w) hd h (opd_ok hF h1) (opd_ok hF h2)).1
    have g1 := fun w : World => ((nilEq_run (w := w) hd h (opd_ok hF h1) (opd_ok hF h2)).2 x y).1
    have g2 := fun w : World => ((nilEq_run (w := w) hd h (opd_ok hF h1) (opd_ok hF h2)).2 x y).2.1
    obtain ⟨_, _, g3, g4⟩ := (nilEq_run (w := default) hd h (opd_ok hF h1) (opd_ok hF h2)).2 x y
    refine ⟨?_, ?_⟩
    · rintro rfl
      exact pdid (fun w => by simp [execOp, ho, g1, g3, hrun]) (.flat rfl)
    · rintro rfl
      exact pdid (fun w => by simp [execOp, ho, g2, g4, hrun]) (.flat rfl)

theorem strEq_eq : ∀ a b : List UInt8, strEq a b = (a == b)
  | [], [] => rfl
  | [], _ :: _ => rfl
  | _ :: _, [] => rfl
  | a :: l, b :: m => by
    rw [strEq]
    cases h : Nat.beq a.toNat b.toNat with
    | true =>
      have : a = b := UInt8.toNat_inj.1 (by simpa using h)
      simp [this, strEq_eq l m]
    | false =>
      have : a ≠ b := fun e => by subst e; simp at h
      simp [this]
theorem strLt_eq : ∀ a b : List UInt8, strLt a b = Op.bytesLess a b
  | _, [] => by unfold strLt; simp [Op.bytesLess]
  | [], _ :: _ => rfl
  | a :: l, b :: m => by
    rw [strLt, Op.bytesLess]
    cases h : Nat.blt a.toNat b.toNat with
    | true =>
      have : a < b := by rw [UInt8.lt_iff_toNat_lt]; simpa [Nat.blt_eq] using h
      simp [this]
    | false =>
      have : ¬ a < b := by rw [UInt8.lt_iff_toNat_lt]; intro hh; rw [← Nat.blt_eq, h] at hh; cases hh
      simp only
      cases h2 : Nat.beq a.toNat b.toNat with
      | true =>
        have e : a = b := UInt8.toNat_inj.1 (by simpa using h2)
        subst e
        simp [strLt_eq l m]
      | false =>
        have e : a ≠ b := fun e => by subst e; simp at h2
        simp [this, e]
theorem eqI_eq : ∀ {a b : Int}, eqI a b = true → a = b
  | .ofNat a, .ofNat b, h => by rw [eqI] at h; rw [Nat.eq_of_beq_eq_true h]
  | .negSucc a, .negSucc b, h => by rw [eqI] at h; rw [Nat.eq_of_beq_eq_true h]
  | .ofNat a, .negSucc b, h => by simp [eqI] at h
  | .negSucc a, .ofNat b, h => by simp [eqI] at h
theorem eqA_eq : ∀ {a b : Addr}, eqA a b = true → a = b
  | ⟨b, o, none⟩, ⟨b', o', none⟩, h => by simp [eqA] at h; simp [h.1, h.2]
  | ⟨b, o, some _⟩, _, h => by simp [eqA] at h
  | ⟨b, o, none⟩, ⟨_, _, some _⟩, h => by simp [eqA] at h
mutual
theorem eqV_eq : ∀ (n : Nat) (a b : Value), eqV n a b = true → a = b
  | 0, _, _, h => by simp [eqV] at h
  | n + 1, a, b, h => by
    unfold eqV at h
    split at h <;> (try (split at h)) <;> (try (split at h)) <;> (try (simp at h; done)) <;> (try rfl)
    all_goals (try simp only [Bool.and_eq_true, Nat.beq_eq, eqK, eqF, decide_eq_true_eq, strEq_eq, beq_iff_eq] at h)
    all_goals first
      | (obtain ⟨h1, h2⟩ := h; rw [h1, eqI_eq h2]; done)
      | (obtain ⟨h1, h2⟩ := h; rw [h1, h2]; done)
      | (obtain ⟨⟨h1, h2⟩, h3⟩ := h; rw [h1, h2, h3]; done)
      | (rw [h]; done)
      | (rw [eqA_eq h]; done)
      | (obtain ⟨⟨h1, h2⟩, h3⟩ := h; rw [eqA_eq h1, h2, h3]; done)
      | (obtain ⟨⟨h1, h2⟩, h3⟩ := h; rw [h1, eqL_eq n _ _ h2, eqL_eq n _ _ h3]; done)
      | (rw [eqL_eq n _ _ h]; done)
      | (obtain ⟨h1, h2⟩ := h; rw [h1, eqV_eq n _ _ h2]; done)
theorem eqL_eq : ∀ (n : Nat) (a b : List Value), eqL n a b = true → a = b
  | _, [], [], _ => rfl
  | n, v :: l, u :: m, h => by
    rw [eqL] at h
    cases hv : eqV n v u with
    | false => rw [hv] at h; simp at h
    | true => rw [hv] at h; rw [eqV_eq n v u hv, eqL_eq n l m h]
  | _, [], _ :: _, h => by simp [eqL] at h
  | _, _ :: _, [], h => by simp [eqL] at h
end

theorem str_pure {op : BinOp} {t yt : TypeId} {x y : Operand} (ho : o.op = .binOp op t x y yt) (hF : FrR μ m.next fr n a) {p q : List UInt8} {d : Did}
    (h1 : opd fr x = some (.string ⟨⟨p⟩⟩)) (h2 : opd fr y = some (.string ⟨⟨q⟩⟩)) (h : giveV m (strOp op p q) = some d) : ∃ v, d = .val v m ∧ PDid P μ m.next o a v := by
  have e1 := (opd_ok hF h1).str_inv
  have e2 := (opd_ok hF h2).str_inv
  cases hs : strOp op p q with
  | none => rw [hs] at h; simp [giveV] at h
  | some v =>
    rw [hs] at h
    simp only [giveV, fVal_eq, Option.some.injEq] at h
    subst h
    have hg : ∀ w : World, (eqGuard op t x y (.string ⟨⟨p⟩⟩) (.string ⟨⟨q⟩⟩)).run P w = .ok () w := fun w => by
      unfold eqGuard
      split <;> simp
    have hb : ∀ w : World, (Go.binOp op t (.string ⟨⟨p⟩⟩) (.string ⟨⟨q⟩⟩)).run P w = .ok v w := fun w => by
      have tl : ∀ l : List UInt8, (⟨⟨l⟩⟩ : ByteArray).toList = l := fun l => by rw [Go.ByteArray.toList_eq]
      unfold strOp at hs
      split at hs
      case h_1 =>
        split at hs
        · rename_i hle
          simp at hs
          subst hs
          rw [len_eq, len_eq, Nat.ble_eq] at hle
          have hsz : ¬ (IntKind.i64.max < (((⟨⟨p⟩⟩ : ByteArray).size + (⟨⟨q⟩⟩ : ByteArray).size : Nat) : Int)) := by
            have g1 : (⟨⟨p⟩⟩ : ByteArray).size = p.length := rfl
            have g2 : (⟨⟨q⟩⟩ : ByteArray).size = q.length := rfl
            have g3 : IntKind.i64.max = 9223372036854775807 := by decide
            rw [g1, g2, g3]
            omega
          have hap : (⟨⟨p⟩⟩ : ByteArray) ++ ⟨⟨q⟩⟩ = ⟨⟨p ++ q⟩⟩ := ByteArray.ext (by rw [ByteArray.data_append]; simp)
          simp only [Go.binOp, Op.stringOp]
          rw [if_neg hsz, hap, joinB_eq]
          rfl
        · simp at hs
      all_goals first
        | (simp at hs; done)
        | (simp only [Option.some.injEq] at hs
           subst hs
           simp [Go.binOp, Op.stringOp, tl, strEq_eq, strLt_eq]; done)
    exact ⟨v, rfl, pdid (fun w => by simp [execOp, ho, e1, e2, hg, hb]) (.of_flatV (by
      unfold strOp at hs
      split at hs
      case h_1 =>
        split at hs
        · simp at hs; subst hs; rfl
        · simp at hs
      all_goals first
        | (simp at hs; done)
        | (simp only [Option.some.injEq] at hs; subst hs; rfl)))⟩

/-! ### slices -/
theorem asNO_ok (hF : FrR μ m.next fr n a) {x : Option Operand} {k : Option Nat} (h : asNO fr x = some k) :
    match k with
    | none => x.map a.eval = none
    | some q => ∃ i, x.map a.eval = some (.int i (q : Int)) := by
  cases x with
  | none => simp [asNO] at h; subst h; rfl
  | some x =>
    rw [asNO] at h
    cases h1 : opd fr x with
    | none => rw [h1] at h; simp at h
    | some v =>
      rw [h1] at h
      simp only at h
      cases h2 : asN v with
      | none => rw [h2] at h; simp at h
      | some q =>
        rw [h2] at h
        simp at h
        subst h
        obtain ⟨i, rfl⟩ := asN_inv h2
        exact ⟨i, by simp [(opd_ok hF h1).int_inv]⟩
theorem bound_run {i : IntKind} {q y : Nat} (c : BoundsCode) (h : q ≤ y) : (Instr.sliceBound (.int i (q : Int)) y c).run P w = .ok q w := by
  simp [Instr.sliceBound, asIntOf, h]
theorem bounds_run (hF : FrR μ m.next fr n a) {lo hi mx : Option Operand} {l h q : Option Nat} (hl : asNO fr lo = some l) (hh : asNO fr hi = some h) (hq : asNO fr mx = some q)
    (is : Bool) (len cap : Nat) (hm : q = none ∨ ∃ q', q = some q' ∧ q' ≤ cap ∧ ∃ h', h = some h') (h1 : orElse h len ≤ orElse q cap) (h2 : orElse l 0 ≤ orElse h len) :
    (Instr.sliceBounds is len cap (lo.map a.eval) (hi.map a.eval) (mx.map a.eval)).run P w = .ok (orElse l 0, orElse h len, orElse q cap) w := by
  have gl := asNO_ok hF hl
  have gh := asNO_ok hF hh
  have gq := asNO_ok hF hq
  unfold Instr.sliceBounds
  rcases hm with rfl | ⟨q', rfl, hq', h', rfl⟩
  · simp only at gq
    rw [gq]
    cases h with
    | none =>
      simp only at gh
      rw [gh]
      cases l with
      | none => simp only at gl; rw [gl]; simp [orElse]
      | some l => obtain ⟨i, gl⟩ := gl; rw [gl]; simp [orElse] at h1 h2 ⊢; simp [bound_run _ h2]
    | some h =>
      obtain ⟨j, gh⟩ := gh
      rw [gh]
      simp [orElse] at h1
      cases l with
      | none => simp only at gl; rw [gl]; simp [orElse, bound_run _ h1]
      | some l => obtain ⟨i, gl⟩ := gl; rw [gl]; simp [orElse] at h2 ⊢; simp [bound_run _ h1, bound_run _ h2]
  · obtain ⟨s, gq⟩ := gq
    obtain ⟨j, gh⟩ := gh
    rw [gq, gh]
    simp [orElse] at h1
    cases l with
    | none => simp only at gl; rw [gl]; simp [orElse, bound_run _ hq', bound_run _ h1]
    | some l => obtain ⟨i, gl⟩ := gl; rw [gl]; simp [orElse] at h2 ⊢; simp [bound_run _ hq', bound_run _ h1, bound_run _ h2]
theorem did_sliceStr {t : TypeId} {x : Operand} {lo hi mx : Option Operand} (ho : o.op = .slice t x lo hi mx) (hR : Rep μ m w) (hF : FrR μ m.next fr n a) {s : List UInt8} {l h : Option Nat} {d : Did}
    (hx : opd fr x = some (.string ⟨⟨s⟩⟩)) (hl : asNO fr lo = some l) (hh : asNO fr hi = some h) (hq : asNO fr mx = some none) (hu : P.underlying t = some .string) (hd : sliceStr m s l h = some d) : DidOk P μ m w o a d := by
  have e := (opd_ok hF hx).str_inv
  unfold sliceStr at hd
  cases ht : takeB (orElse h (len s 0)) s with
  | none => rw [ht] at hd; simp at hd
  | some s' =>
    rw [ht] at hd
    simp only at hd
    cases hb : Nat.ble (orElse l 0) (orElse h (len s 0)) with
    | false => rw [hb] at hd; simp at hd
    | true =>
      rw [hb] at hd
      simp only [giveV, fVal_eq, Option.some.injEq] at hd
      subst hd
      obtain ⟨rfl, hle⟩ := takeB_eq _ _ _ ht
      rw [len_eq, Nat.add_zero] at hle hb ⊢
      rw [Nat.ble_eq] at hb
      have hsz : (⟨⟨s⟩⟩ : ByteArray).size = s.length := rfl
      have hbr := bounds_run (P := P) (w := w) hF hl hh hq false s.length s.length (.inl rfl) (by simpa [orElse] using hle) hb
      have gq := asNO_ok hF hq
      simp only at gq
      rw [gq] at hbr
      have hex : (⟨⟨s⟩⟩ : ByteArray).extract (orElse l 0) (orElse h s.length) = ⟨⟨dropB (orElse l 0) (List.take (orElse h s.length) s)⟩⟩ := by
        apply ByteArray.ext
        rw [ByteArray.data_extract]
        apply Array.ext'
        rw [Array.toList_extract, dropB_eq]
        rw [List.extract_eq_take_drop, List.drop_take]
      refine did_val hR (v' := .string ⟨⟨dropB (orElse l 0) (List.take (orElse h s.length) s)⟩⟩) ?_ (.flat rfl)
      simp [execOp, ho, Instr.sliceAt, run_under hu, e, Instr.slice, hsz, gq, hbr, hex]

theorem cut_form (b f l z q : Nat) : ∃ f', cutAddr q l z (some ⟨b, f, none⟩) = some ⟨b, f', none⟩ ∧ ∀ b2 f2 q', (q = l ↔ q' = l) → (if q' = l then some (⟨b2, f2 + f, none⟩ : Addr) else (some ⟨b2, f2 + f, none⟩ : Option Addr).map (·.add (l * z))) = some ⟨b2, f2 + f', none⟩ := by
  unfold cutAddr
  cases hb : Nat.beq q l with
  | true =>
    have e : q = l := by simpa using hb
    exact ⟨f, rfl, fun _ _ q' h => by rw [if_pos (h.1 e)]⟩
  | false =>
    have e : q ≠ l := Nat.ne_of_beq_eq_false hb
    exact ⟨f + l * z, by simp [addTo_none], fun b2 f2 q' h => by rw [if_neg (fun e' => e (h.2 e'))]; simp [add_none, Nat.add_assoc]⟩
theorem cut_off (b f l z q : Nat) (h : q ≠ l) : cutAddr q l z (some ⟨b, f, none⟩) = some ⟨b, f + l * z, none⟩ := by
  unfold cutAddr
  cases hb : Nat.beq q l with
  | true => exact absurd (by simpa using hb) h
  | false => simp [addTo_none]
theorem cut_none (l z q : Nat) : cutAddr q l z none = none := by
  unfold cutAddr
  split <;> rfl
theorem esOk_inv {p : Addr} {z : Nat} (hR : Rep μ m w) (h : esOk m (some p) z = true) : (μ p.block).es = z ∧ p.block < nowhere := by
  unfold esOk at h
  simp only at h
  cases hb : Nat.blt p.block nowhere with
  | false => rw [hb] at h; simp at h
  | true =>
    rw [hb] at h
    simp only at h
    cases hx : m.heap.get p.block with
    | none => rw [hx] at h; simp at h
    | some x => rw [hx] at h; exact ⟨(hR.es _ x hx).trans (by simpa using h), by simpa [Nat.blt_eq] using hb⟩
/-- a slice's form, whatever stands for it -/
theorem sl_run {t e : TypeId} {x : Operand} {lo hi mx : Option Operand} {k c l h q z : Nat} {p : Option Addr} (ho : o.op = .slice t x lo hi mx) (hu : P.underlying t = some (.slice e)) (hz : szOf P e = some z) (he : a.eval x = .slice p k c)
    (hb : (Instr.sliceBounds true k c (lo.map a.eval) (hi.map a.eval) (mx.map a.eval)).run P w = .ok (l, h, q) w) :
    (execOp a.eval o).run P w = .ok (.value (.slice (if q = l then p else p.map (·.add (l * z))) (h - l) (q - l))) w := by
  simp [execOp, ho, Instr.sliceAt, run_under hu, he, Instr.slice, hb, run_sizeOf hz]
theorem slice_core {lo hi mx : Option Operand} (hR : Rep μ m w) (hF : FrR μ m.next fr n a) {k c z : Nat} {p : Option Addr} {l h q : Option Nat} {d : Did} {u : Value}
    (hv : VR μ m.next (.slice p k c) u) (hl : asNO fr lo = some l) (hh : asNO fr hi = some h) (hq : asNO fr mx = some q)
    (hrun : ∀ p' c' l h q, u = .slice p' k c' → (∀ is, (Instr.sliceBounds is k c' (lo.map a.eval) (hi.map a.eval) (mx.map a.eval)).run P w = .ok (l, h, q) w) →
      (execOp a.eval o).run P w = .ok (.value (.slice (if q = l then p' else p'.map (·.add (l * z))) (h - l) (q - l))) w)
    (hd : sliceSl m z p k c l h q = some d) : DidOk P μ m w o a d := by
  unfold sliceSl at hd
  cases hlh : Nat.ble (orElse l 0) (orElse h k) with
  | false => rw [hlh] at hd; simp at hd
  | true =>
    rw [hlh] at hd
    rw [Nat.ble_eq] at hlh
    simp only at hd
    -- what the concrete run gives, once its capacity is known
    have go : ∀ (p' : Option Addr) (c' : Nat), u = .slice p' k c' → (q = none ∨ ∃ q', q = some q' ∧ q' ≤ c' ∧ ∃ h', h = some h') → orElse h k ≤ orElse q c' →
        (execOp a.eval o).run P w = .ok (.value (.slice (if orElse q c' = orElse l 0 then p' else p'.map (·.add (orElse l 0 * z))) (orElse h k - orElse l 0) (orElse q c' - orElse l 0))) w := fun p' c' hu' hm h1 =>
      hrun p' c' _ _ _ hu' fun is => bounds_run hF hl hh hq is k c' hm h1 hlh
    generalize hL : orElse l 0 = L at hd hlh go
    generalize hH : orElse h k = H at hd hlh go
    cases q with
    | some q =>
      simp only at hd
      have eq : ∀ c', orElse (some q) c' = q := fun _ => rfl
      simp only [eq] at go
      cases h with
      | none => simp at hd
      | some h =>
        obtain rfl : h = H := hH
        simp only at hd
        cases hc : Nat.beq c anyCap with
        | true =>
          rw [hc] at hd
          simp only at hd
          have hca : c = anyCap := by simpa using hc
          split at hd
          · rename_i hcond
            simp only [Bool.and_eq_true, Nat.ble_eq, Nat.blt_eq] at hcond
            obtain ⟨⟨⟨c1, c2⟩, c3⟩, c4⟩ := hcond
            simp only [giveV, fVal_eq, Option.some.injEq] at hd
            subst hd
            cases hv with
            | flat hf => cases p <;> simp [flat1] at hf; simp [esOk] at c4
            | nowhere => exact absurd (esOk_inv hR c4).2 (Nat.lt_irrefl _)
            | slice hb hc' => omega
            | sliceAny hb hc' hr =>
              rename_i b f c'
              have hrun := go _ _ rfl (.inr ⟨q, rfl, by omega, h, rfl⟩) c1
              obtain ⟨f', e1, e2⟩ := cut_form b f L z q
              rw [e2 _ _ q Iff.rfl] at hrun
              rw [e1]
              exact did_val hR hrun (.slice hb (by omega))
          · simp at hd
        | false =>
          rw [hc] at hd
          simp only at hd
          split at hd
          · rename_i hcond
            simp only [Bool.and_eq_true, Nat.ble_eq] at hcond
            obtain ⟨c1, c2⟩ := hcond
            simp only [giveV, fVal_eq, Option.some.injEq] at hd
            subst hd
            cases hv with
            | flat hf =>
              cases p with
              | some p => simp [flat1] at hf
              | none =>
                simp [flat1] at hf
                obtain ⟨rfl, rfl⟩ := hf
                have hrun := go _ _ rfl (.inr ⟨q, rfl, c2, h, rfl⟩) c1
                obtain rfl : q = 0 := by omega
                obtain rfl : h = 0 := by omega
                rw [cut_none]
                simp at hrun ⊢
                exact did_val hR hrun (.flat (by simp [flat1]))
            | nowhere => simp at hc
            | slice hb hc' =>
              rename_i b f
              have hrun := go _ _ rfl (.inr ⟨q, rfl, c2, h, rfl⟩) c1
              obtain ⟨f', e1, e2⟩ := cut_form b f L z q
              rw [e2 _ _ q Iff.rfl] at hrun
              rw [e1]
              exact did_val hR hrun (.slice hb (by omega))
            | sliceAny hb hc' hr => simp at hc
          · simp at hd
    | none =>
      simp only at hd
      have eq : ∀ c', orElse none c' = c' := fun _ => rfl
      simp only [eq] at go
      cases hc : Nat.beq c anyCap with
      | true =>
        rw [hc] at hd
        simp only at hd
        have hca : c = anyCap := by simpa using hc
        split at hd
        · split at hd
          rotate_left
          · simp at hd
          rename_i hk0 hib
          rw [Bool.and_eq_true, Nat.blt_eq] at hib
          obtain ⟨hLH, hib⟩ := hib
          simp only [giveV, fVal_eq, Option.some.injEq] at hd
          subst hd
          unfold inBlk at hib
          split at hib
          rotate_left
          · simp at hib
          rename_i a0
          split at hib
          rotate_left
          · simp at hib
          rename_i hnw
          rw [Bool.and_eq_true, Nat.blt_eq, Nat.blt_eq] at hnw
          split at hib
          rotate_left
          · simp at hib
          rename_i x hx
          simp only [Bool.and_eq_true, Nat.beq_eq, Nat.ble_eq, len_eq, Nat.add_zero] at hib
          cases hv with
          | flat hf => simp [flat1] at hf
          | nowhere => exact absurd hnw.1 (Nat.lt_irrefl _)
          | slice hb hc' => omega
          | sliceAny hb hc' hr =>
            rename_i b f c'
            simp only at hx hib
            have hfit := hR.fits b x hx hib.1.1
            have hes := hR.es b x hx
            rw [hib.1.2] at hes
            rw [hes] at hr
            have hmul : H * z ≤ c' * z := by have := hib.2; omega
            have hle : H ≤ c' := Nat.le_of_mul_le_mul_right hmul hnw.2
            have hrun := go _ _ rfl (.inl trivial) (by omega)
            rw [cut_off _ _ _ _ _ (Nat.succ_ne_self L)]
            rw [if_neg (by omega)] at hrun
            simp only [Option.map_some, add_none, Nat.add_assoc] at hrun
            refine did_val hR hrun (.sliceAny hb (by omega) ?_)
            rw [hes]
            have := Nat.sub_mul c' L z
            have : L * z ≤ c' * z := Nat.mul_le_mul_right _ (by omega)
            omega
        · rename_i hk
          rw [Nat.ble_eq] at hk
          cases hL0 : Nat.beq L 0 with
          | true =>
            rw [hL0] at hd
            simp only [giveV, fVal_eq, Option.some.injEq] at hd
            subst hd
            obtain rfl : L = 0 := by simpa using hL0
            cases hv with
            | flat hf => cases p <;> simp [flat1] at hf; rw [hf.2] at hca; exact absurd hca (by decide)
            | nowhere =>
              rename_i b c'
              have hrun := go _ _ rfl (.inl trivial) (by omega)
              obtain rfl : H = 0 := by omega
              refine did_val hR (v' := .slice (some b) 0 c') (hrun.trans ?_) .nowhere
              cases b
              split <;> simp [Addr.add]
            | slice hb hc' => omega
            | sliceAny hb hc' hr =>
              rename_i b f c'
              have hrun := go _ _ rfl (.inl trivial) (by omega)
              refine did_val hR (v' := .slice (some ⟨(μ b).blk, (μ b).base + f, none⟩) H c') (hrun.trans ?_) (.sliceAny hb (by omega) hr)
              split <;> simp [Addr.add]
          | false =>
            rw [hL0] at hd
            simp only at hd
            have hL1 : L ≠ 0 := Nat.ne_of_beq_eq_false hL0
            cases hlt : Nat.blt L k with
            | true =>
              rw [hlt] at hd
              rw [Nat.blt_eq] at hlt
              simp only at hd
              split at hd
              · rename_i c4
                simp only [giveV, fVal_eq, Option.some.injEq] at hd
                subst hd
                cases hv with
                | flat hf => cases p <;> simp [flat1] at hf; omega
                | nowhere => omega
                | slice hb hc' => omega
                | sliceAny hb hc' hr =>
                  rename_i b f c'
                  have hrun := go _ _ rfl (.inl trivial) (by omega)
                  have hes := (esOk_inv hR c4).1
                  simp only at hes
                  rw [cut_off _ _ _ _ _ (Nat.succ_ne_self L)]
                  rw [if_neg (by omega)] at hrun
                  simp only [Option.map_some, add_none, Nat.add_assoc] at hrun
                  refine did_val hR hrun (.sliceAny hb (by omega) ?_)
                  rw [hes] at hr ⊢
                  have := Nat.sub_mul c' L z
                  have : L * z ≤ c' * z := Nat.mul_le_mul_right _ (by omega)
                  omega
              · simp at hd
            | false =>
              rw [hlt] at hd
              simp only [Option.some.injEq] at hd
              subst hd
              have hlt' : ¬ L < k := by rw [← Nat.blt_eq, hlt]; simp
              cases hv with
              | flat hf => cases p <;> simp [flat1] at hf; omega
              | nowhere => omega
              | slice hb hc' => omega
              | sliceAny hb hc' hr =>
                rename_i b f c'
                have hrun := go _ _ rfl (.inl trivial) (by omega)
                have e0 : H - L = 0 := by omega
                rw [e0] at hrun
                split at hrun
                · exact did_val hR hrun .nowhere
                · exact did_val hR hrun .nowhere
      | false =>
        rw [hc] at hd
        simp only at hd
        split at hd
        · rename_i hk
          rw [Nat.ble_eq] at hk
          simp only [giveV, fVal_eq, Option.some.injEq] at hd
          subst hd
          cases hv with
          | flat hf =>
            cases p with
            | some p => simp [flat1] at hf
            | none =>
              simp [flat1] at hf
              obtain ⟨rfl, rfl⟩ := hf
              have hrun := go _ _ rfl (.inl trivial) hk
              obtain rfl : H = 0 := by omega
              rw [cut_none]
              simp at hrun ⊢
              exact did_val hR hrun (.flat (by simp [flat1]))
          | nowhere => simp at hc
          | slice hb hc' =>
            rename_i b f
            have hrun := go _ _ rfl (.inl trivial) hk
            obtain ⟨f', e1, e2⟩ := cut_form b f L z c
            rw [e2 _ _ c Iff.rfl] at hrun
            rw [e1]
            exact did_val hR hrun (.slice hb (by omega))
          | sliceAny hb hc' hr => simp at hc
        · simp at hd
theorem did_sliceSl {t e : TypeId} {x : Operand} {lo hi mx : Option Operand} (ho : o.op = .slice t x lo hi mx) (hR : Rep μ m w) (hF : FrR μ m.next fr n a) {k c z : Nat} {p : Option Addr} {l h q : Option Nat} {d : Did}
    (hx : opd fr x = some (.slice p k c)) (hl : asNO fr lo = some l) (hh : asNO fr hi = some h) (hq : asNO fr mx = some q) (hu : P.underlying t = some (.slice e)) (hz : szOf P e = some z) (hd : sliceSl m z p k c l h q = some d) : DidOk P μ m w o a d :=
  slice_core hR hF (opd_ok hF hx) hl hh hq (fun p' c' l h q he hb => sl_run ho hu hz he (hb true)) hd
theorem did_sliceArr {t e : TypeId} {x : Operand} {lo hi mx : Option Operand} (ho : o.op = .slice t x lo hi mx) (hR : Rep μ m w) (hF : FrR μ m.next fr n a) {k z : Nat} {p : Addr} {l h q : Option Nat} {d : Did}
    (hx : opd fr x = some (.pointer (some p))) (hl : asNO fr lo = some l) (hh : asNO fr hi = some h) (hq : asNO fr mx = some q) (hu : P.underlying t = some (.array k e)) (hk : k < anyCap) (hz : szOf P e = some z) (hd : sliceSl m z (some p) k k l h q = some d) : DidOk P μ m w o a d := by
  obtain ⟨b, f, rfl, hb, e1⟩ := (opd_ok hF hx).ptr_inv
  refine slice_core hR hF (u := .slice (some ⟨(μ b).blk, (μ b).base + f, none⟩) k k) (.slice hb ⟨Nat.le_refl _, hk⟩) hl hh hq (fun p' c' l h q he hb' => ?_) hd
  injection he with he1 he2 he3
  subst he1 he3
  have hb2 := hb' false
  simp [execOp, ho, Instr.sliceAt, run_under hu, e1, Instr.sureAddr, hb2, run_sizeOf hz]
  split <;> rfl
end
end Go.Proofs.YtloolljoelngcaaGreat
