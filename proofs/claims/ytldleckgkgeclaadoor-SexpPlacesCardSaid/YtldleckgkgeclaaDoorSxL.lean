/-
  What package sexp's reader computes stands where it says. No program in sight.
-/
import Derived.Test.YtldleckgkgeclaaDoorSxP
set_option linter.unusedVariables false
set_option linter.unusedSimpArgs false
namespace Go.Proofs.YtldleckgkgeclaaDoor
open Go.RowKit
/-- what a leaf says of the sign at its place -/
def LeafOk (s : ByteArray) (k : Int) (x : ByteArray) (n : Int) (a : Nat) : Prop :=
  (k = 2 ∧ letP (bt s a) = true ∧ 0 < x.size ∧ bt x 0 = bt s a) ∨ (k = 3 ∧ ((((bt s a).toNat : Int) = 45 ∧ n ≤ 0) ∨ (((bt s a).toNat : Int) ≠ 45 ∧ digP (bt s a) = true ∧ 0 ≤ n))) ∨ (k = 4 ∧ ((bt s a).toNat : Int) = 34)
mutual
def PlT (s : ByteArray) : T → Nat → Nat → Prop
  | .mk k x n l a, f, to => ∃ a' : Nat, a = (a' : Int) ∧ f ≤ a' ∧ a' < to ∧ to ≤ s.size ∧ ((k = 1 ∧ ((bt s a').toNat : Int) = 40 ∧ ChL s l (a' + 1) to) ∨ (l = [] ∧ LeafOk s k x n a'))
def ChL (s : ByteArray) : List T → Nat → Nat → Prop
  | [], _, _ => True
  | e :: r, f, to => (match r with
    | [] => PlT s e f to
    | e2 :: _ => PlT s e f e2.at_.toNat ∧ e2.at_.toNat ≤ to) ∧ ChL s r (e.at_.toNat + 1) to
end
theorem PlT.parts {s : ByteArray} {t : T} {f to : Nat} (h : PlT s t f to) : t.at_ = (t.at_.toNat : Int) ∧ f ≤ t.at_.toNat ∧ t.at_.toNat < to ∧ to ≤ s.size := by
  obtain ⟨k, x, n, l, a⟩ := t
  unfold PlT at h
  obtain ⟨a', rfl, h1, h2, h3, _⟩ := h
  exact ⟨by simp [T.at_], by simpa [T.at_] using h1, by simpa [T.at_] using h2, h3⟩
theorem PlT.from_ {s : ByteArray} {t : T} {f f' to : Nat} (h : PlT s t f to) (hf : f' ≤ t.at_.toNat) : PlT s t f' to := by
  obtain ⟨k, x, n, l, a⟩ := t
  unfold PlT at h ⊢
  obtain ⟨a', rfl, h1, h2, h3, h4⟩ := h
  exact ⟨a', rfl, by simpa [T.at_] using hf, h2, h3, h4⟩
theorem chL_to_of {s : ByteArray} {to to' : Nat} (hto : to ≤ to') : ∀ (l : List T) (f : Nat), (∀ e ∈ l, ∀ f, PlT s e f to → PlT s e f to') → ChL s l f to → ChL s l f to'
  | [], _, _, _ => by unfold ChL; trivial
  | [e], f, hm, h => by
    unfold ChL at h ⊢
    exact ⟨hm e List.mem_cons_self f h.1, chL_to_of hto [] _ (fun e he => by cases he) h.2⟩
  | e :: e2 :: r, f, hm, h => by
    unfold ChL at h ⊢
    exact ⟨⟨h.1.1, Nat.le_trans h.1.2 hto⟩, chL_to_of hto (e2 :: r) _ (fun x hx => hm x (List.mem_cons_of_mem _ hx)) h.2⟩
theorem PlT.to_ {s : ByteArray} {to to' : Nat} (hto : to ≤ to') (hs : to' ≤ s.size) : ∀ (t : T) (f : Nat), PlT s t f to → PlT s t f to' := by
  intro t
  refine T.ind (P := fun t => ∀ f, PlT s t f to → PlT s t f to') (fun k x n l a ih f h => ?_) t
  unfold PlT at h ⊢
  obtain ⟨a', e, h1, h2, h3, h4⟩ := h
  refine ⟨a', e, h1, by omega, hs, ?_⟩
  rcases h4 with ⟨h5, h6, h7⟩ | h5
  · exact .inl ⟨h5, h6, chL_to_of hto l _ ih h7⟩
  · exact .inr h5
theorem chL_to {s : ByteArray} {to to' : Nat} (hto : to ≤ to') (hs : to' ≤ s.size) {l : List T} {f : Nat} (h : ChL s l f to) : ChL s l f to' := chL_to_of hto l f (fun e _ => PlT.to_ hto hs e) h
theorem chL_snoc {s : ByteArray} {t : T} {i j : Nat} (hi : i ≤ t.at_.toNat) (ht : PlT s t t.at_.toNat j) : ∀ (l : List T) (f : Nat), f ≤ t.at_.toNat → ChL s l f i → ChL s (l ++ [t]) f j
  | [], f, hf, _ => by
    show ChL s [t] f j
    unfold ChL
    exact ⟨ht.from_ hf, by unfold ChL; trivial⟩
  | [e], f, hf, h => by
    show ChL s [e, t] f j
    unfold ChL at h ⊢
    have hp := h.1.parts
    have hq := ht.parts
    refine ⟨⟨PlT.to_ hi (by omega) e f h.1, by omega⟩, chL_snoc hi ht [] _ (by omega) (by unfold ChL; trivial)⟩
  | e :: e2 :: r, f, hf, h => by
    have hq := ht.parts
    show ChL s (e :: ((e2 :: r) ++ [t])) f j
    have h' := h
    unfold ChL at h'
    have hp := h'.1.1.parts
    have := chL_snoc hi ht (e2 :: r) (e.at_.toNat + 1) (by have := h'.1.2; omega) h'.2
    show ChL s (e :: e2 :: (r ++ [t])) f j
    unfold ChL
    exact ⟨⟨h'.1.1, by have := h'.1.2; omega⟩, this⟩
/-- the trees that are open, the last of them up to place e -/
def OkU (s : ByteArray) (op : List T) (e : Nat) : Prop := ∀ (k : Nat) (t : T), op[k]? = some t → t.k = 1 ∧ t.at_ = (t.at_.toNat : Int) ∧ ((bt s t.at_.toNat).toNat : Int) = 40 ∧ (∃ E : Nat, E = (match op[k + 1]? with
    | some t2 => t2.at_.toNat
    | none => e) ∧ t.at_.toNat < E ∧ E ≤ e ∧ ChL s t.kids (t.at_.toNat + 1) E)
section
variable {s : ByteArray} {op : List T} {e : Nat}
theorem OkU.nil : OkU s [] e := fun k t h => by simp at h
theorem OkU.more (h : OkU s op e) {e' : Nat} (he : e ≤ e') (hs : e' ≤ s.size) : OkU s op e' := fun k t hk => by
  obtain ⟨h1, h2, h3, E, hE, h4, h5, h6⟩ := h k t hk
  refine ⟨h1, h2, h3, ?_⟩
  cases hn : op[k + 1]? with
  | some t2 =>
    rw [hn] at hE
    exact ⟨E, hE, h4, by omega, h6⟩
  | none =>
    rw [hn] at hE
    simp only at hE
    subst hE
    exact ⟨e', rfl, by omega, Nat.le_refl _, chL_to he hs h6⟩
theorem OkU.push (h : OkU s op e) (hs : e + 1 ≤ s.size) (hb : ((bt s e).toNat : Int) = 40) : OkU s (op ++ [.mk 1 ⟨#[]⟩ 0 [] (e : Int)]) (e + 1) := fun k t hk => by
  rcases Nat.lt_or_ge k op.length with hl | hl
  · rw [List.getElem?_append_left hl] at hk
    obtain ⟨h1, h2, h3, E, hE, h4, h5, h6⟩ := h k t hk
    refine ⟨h1, h2, h3, E, ?_, h4, by omega, h6⟩
    rcases Nat.lt_or_ge (k + 1) op.length with hl2 | hl2
    · rw [List.getElem?_append_left hl2, List.getElem?_eq_getElem hl2]
      rw [List.getElem?_eq_getElem hl2] at hE
      exact hE
    · rw [List.getElem?_append_right hl2, show k + 1 - op.length = 0 by omega]
      rw [List.getElem?_eq_none hl2] at hE
      simpa [T.at_] using hE
  · rw [List.getElem?_append_right hl] at hk
    have hk0 : k - op.length = 0 := by
      rcases Nat.eq_zero_or_pos (k - op.length) with h0 | h0
      · exact h0
      · rw [List.getElem?_eq_none (by simp; omega)] at hk; cases hk
    rw [hk0] at hk
    obtain rfl : T.mk 1 ⟨#[]⟩ 0 [] (e : Int) = t := by simpa using hk
    refine ⟨rfl, by simp [T.at_], by simpa [T.at_] using hb, e + 1, ?_, by simp [T.at_], Nat.le_refl _, by unfold ChL T.kids; trivial⟩
    rw [List.getElem?_eq_none (by simp; omega)]
theorem OkU.take (h : OkU s op e) {m : Nat} {t : T} (hm : op[m]? = some t) : OkU s (op.take m) t.at_.toNat := fun k x hk => by
  have hkm : k < m := by
    rcases Nat.lt_or_ge k m with h' | h'
    · exact h'
    · rw [List.getElem?_take_eq_none h'] at hk; cases hk
  rw [List.getElem?_take_of_lt hkm] at hk
  obtain ⟨h1, h2, h3, E, hE, h4, h5, h6⟩ := h k x hk
  refine ⟨h1, h2, h3, E, ?_, h4, ?_, h6⟩
  · rcases Nat.lt_or_ge (k + 1) m with h' | h'
    · have hl2 : k + 1 < op.length := by have := (List.getElem?_eq_some_iff.1 hm).1; omega
      rw [List.getElem?_take_of_lt h', List.getElem?_eq_getElem hl2]
      rw [List.getElem?_eq_getElem hl2] at hE
      exact hE
    · rw [List.getElem?_take_eq_none h']
      obtain rfl : k + 1 = m := by omega
      rw [hm] at hE
      exact hE
  · rcases Nat.lt_or_ge (k + 1) m with h' | h'
    · -- the places rise
      have rise : ∀ d, k + 1 + d ≤ m → ∀ y, op[k + 1 + d]? = some y → E ≤ y.at_.toNat := by
        intro d
        induction d with
        | zero =>
          intro _ y hy
          rw [show k + 1 + 0 = k + 1 by omega] at hy
          rw [hy] at hE
          simp only at hE
          omega
        | succ d ih =>
          intro hd y hy
          obtain ⟨z, hz⟩ : ∃ z, op[k + 1 + d]? = some z := ⟨_, List.getElem?_eq_getElem (by have := (List.getElem?_eq_some_iff.1 hy).1; omega)⟩
          have := ih (by omega) z hz
          obtain ⟨_, _, _, E2, hE2, h7, _, _⟩ := h _ z hz
          rw [show k + 1 + d + 1 = k + 1 + (d + 1) by omega, hy] at hE2
          simp only at hE2
          omega
      exact rise (m - (k + 1)) (by omega) t (by rw [show k + 1 + (m - (k + 1)) = m by omega]; exact hm)
    · obtain rfl : k + 1 = m := by omega
      rw [hm] at hE
      simp only at hE
      omega
theorem OkU.add (h : OkU s op e) {t : T} {j : Nat} {dn : List T} (ht : PlT s t t.at_.toNat j) (he : e ≤ t.at_.toNat) (hdn : ∀ x ∈ dn, PlT s x 0 s.size) : OkU s (addE op dn t).1 j ∧ ∀ x ∈ (addE op dn t).2, PlT s x 0 s.size := by
  have hp := ht.parts
  unfold addE
  cases hl : op[op.length - 1]? with
  | none =>
    have e0 : op = [] := by
      have := List.getElem?_eq_none_iff.1 hl
      exact List.eq_nil_of_length_eq_zero (by omega)
    refine ⟨by simp only [e0]; exact .nil, fun x hx => ?_⟩
    rcases List.mem_append.1 hx with hx | hx
    · exact hdn x hx
    · obtain rfl : x = t := by simpa using hx
      exact PlT.to_ hp.2.2.2 (Nat.le_refl _) _ _ (ht.from_ (Nat.zero_le _))
  | some p =>
    refine ⟨fun k x hk => ?_, hdn⟩
    simp only at hk ⊢
    have hlt : op.length - 1 < op.length := (List.getElem?_eq_some_iff.1 hl).1
    by_cases ek : op.length - 1 = k
    · subst ek
      rw [List.getElem?_set_self hlt] at hk
      obtain rfl := Option.some.inj hk
      obtain ⟨h1, h2, h3, E, hE, h4, h5, h6⟩ := h _ p hl
      rw [List.getElem?_eq_none (by omega)] at hE
      simp only at hE
      rw [hE] at h4 h6
      have hpt : p.at_.toNat + 1 ≤ t.at_.toNat := by omega
      refine ⟨h1, h2, h3, j, ?_, ?_, Nat.le_refl _, ?_⟩
      · rw [List.getElem?_eq_none (by simp; omega)]
      · show p.at_.toNat < j; omega
      · exact chL_snoc he ht p.kids _ hpt h6
    · rw [List.getElem?_set_ne ek] at hk
      obtain ⟨h1, h2, h3, E, hE, h4, h5, h6⟩ := h k x hk
      refine ⟨h1, h2, h3, E, ?_, h4, by omega, h6⟩
      have hkl := (List.getElem?_eq_some_iff.1 hk).1
      by_cases e2 : op.length - 1 = k + 1
      · rw [← e2, List.getElem?_set_self hlt]
        rw [← e2, hl] at hE
        exact hE
      · have hl2 : k + 1 < op.length := by omega
        rw [List.getElem?_set_ne e2, List.getElem?_eq_getElem hl2]
        rw [List.getElem?_eq_getElem hl2] at hE
        exact hE
end
theorem parse_sign {l : List UInt8} {c : UInt8} {v : Int} (h : Lib.parseIntB 64 (c :: l) = .ok v) : ((c.toNat : Int) = 45 → v ≤ 0) ∧ ((c.toNat : Int) ≠ 45 → 0 ≤ v) := by
  unfold Lib.parseIntB at h
  simp only at h
  split at h
  · cases h
  · cases h
  · rename_i u hu
    split at h
    · cases h
    · split at h
      · cases h
      · injection h with h
        constructor
        · intro hc
          rw [if_pos (by omega)] at h
          omega
        · intro hc
          rw [if_neg (by omega)] at h
          omega
theorem numberE_sign {s : ByteArray} {i : Nat} {n : Int} {e : Nat} (hi : i < s.size) (h : numberE s i = some (n, e)) : (((bt s i).toNat : Int) = 45 → n ≤ 0) ∧ (((bt s i).toNat : Int) ≠ 45 → 0 ≤ n) := by
  have hend := numberE_end hi h
  unfold numberE at h
  split at h
  · cases h
  · split at h
    · rename_i v hv
      injection h with h
      injection h with h1 h2
      subst h1
      rw [h2] at hv
      obtain ⟨l, hl⟩ : ∃ l, (s.extract i e).data.toList = bt s i :: l := by
        cases hc : (s.extract i e).data.toList with
        | nil =>
          have h0 : (s.extract i e).data.toList.length = 0 := by rw [hc]; rfl
          have h1 : (s.extract i e).size = (s.extract i e).data.toList.length := by rw [Array.length_toList]; rfl
          rw [ByteArray.size_extract] at h1
          omega
        | cons c l =>
          refine ⟨l, ?_⟩
          have hz : 0 < (s.extract i e).size := by rw [ByteArray.size_extract]; omega
          have h0 : (s.extract i e)[0]'hz = c := by
            show (s.extract i e).data[0] = c
            have h9 : (s.extract i e).data[0]? = some c := by rw [← Array.getElem?_toList, hc]; rfl
            exact (Array.getElem?_eq_some_iff.1 h9).2
          rw [bt_eq hi, ← h0]
          simp [ByteArray.getElem_extract]
      rw [hl] at hv
      exact parse_sign hv
    · cases h
theorem oneE_leaf {s : ByteArray} {i : Nat} (wh : Bool) (hi : i < s.size) (h : (oneE s i wh).2.2.1 = 0) : (oneE s i wh).1.at_ = (i : Int) ∧ PlT s (oneE s i wh).1 i (oneE s i wh).2.1.toNat := by
  have hend := (oneE_end wh hi).2.1 h
  obtain ⟨h1, h2, _⟩ := hend
  unfold oneE at h h1 h2 ⊢
  split
  · rename_i hc; rw [if_pos hc] at h; simp at h
  · rename_i hc
    rw [if_neg hc] at h h1 h2
    split
    · rename_i hl
      rw [if_pos hl] at h1 h2
      have hlt := runE_lt hi hl
      refine ⟨rfl, ?_⟩
      unfold PlT
      refine ⟨i, rfl, Nat.le_refl _, by simp only at h1 ⊢; omega, by simp only at h2 ⊢; omega, .inr ⟨rfl, .inl ⟨rfl, hl, ?_, ?_⟩⟩⟩
      · rw [ByteArray.size_extract]; simp only at h2; omega
      · have hz : 0 < (s.extract i (runE letP s i)).size := by rw [ByteArray.size_extract]; simp only at h2; omega
        rw [bt_eq hz, bt_eq hi]
        simp [ByteArray.getElem_extract]
    · rename_i hl
      rw [if_neg hl] at h h1 h2
      split
      · rename_i hd
        rw [if_pos hd] at h h1 h2
        cases hq : numberE s i with
        | none => rw [hq] at h; simp at h
        | some ne =>
          obtain ⟨n, en⟩ := ne
          rw [hq] at h1 h2
          refine ⟨rfl, ?_⟩
          unfold PlT
          refine ⟨i, rfl, Nat.le_refl _, by simp only at h1 ⊢; omega, by simp only at h2 ⊢; omega, .inr ⟨rfl, .inr (.inl ⟨rfl, ?_⟩)⟩⟩
          have hsg := numberE_sign hi hq
          by_cases h45 : ((bt s i).toNat : Int) = 45
          · exact .inl ⟨h45, hsg.1 h45⟩
          · refine .inr ⟨h45, ?_, hsg.2 h45⟩
            simpa [h45] using hd
      · rename_i hd
        rw [if_neg hd] at h h1 h2
        split
        · rename_i h34
          rw [if_pos h34] at h h1 h2
          refine ⟨rfl, ?_⟩
          unfold PlT
          exact ⟨i, rfl, Nat.le_refl _, by simp only at h1 ⊢; omega, by simp only at h2 ⊢; omega, .inr ⟨rfl, .inr (.inr ⟨rfl, h34⟩)⟩⟩
        · rename_i h34
          rw [if_neg h34] at h
          simp at h
theorem read_placed {s : ByteArray} : ∀ (n i : Nat) (op dn : List T), s.size - i = n → i ≤ s.size → OkU s op i → (∀ t ∈ dn, PlT s t 0 s.size) →
    ((readE s op dn i).2.1 = 0 → PlT s (readE s op dn i).1 0 s.size) ∧ ((readE s op dn i).2.1 ≠ 0 → 0 ≤ (readE s op dn i).2.2 ∧ (readE s op dn i).2.2 ≤ s.size) := by
  intro n
  induction n using Nat.strongRecOn with
  | _ n ih =>
    intro i op dn hn his hop hdn
    by_cases h : i < s.size
    · by_cases hb : ((bt s i).toNat : Int) = 32 ∨ ((bt s i).toNat : Int) = 10
      · rw [readE_blank h hb]
        exact ih (s.size - (i + 1)) (by omega) (i + 1) op dn rfl (by omega) (hop.more (by omega) (by omega)) hdn
      · by_cases h40 : ((bt s i).toNat : Int) = 40
        · rw [readE_open h h40]
          split
          · exact ⟨fun h => by simp at h, fun _ => ⟨by simp only; omega, by simp only; omega⟩⟩
          · split
            · exact ⟨fun h => by simp at h, fun _ => ⟨by simp only; omega, by simp only; omega⟩⟩
            · exact ih (s.size - (i + 1)) (by omega) (i + 1) _ dn rfl (by omega) (hop.push (by omega) h40) hdn
        · by_cases h41 : ((bt s i).toNat : Int) = 41
          · rcases Nat.eq_zero_or_pos op.length with h0 | h0
            · rw [readE_close0 h h41 h0]
              exact ⟨fun h => by simp at h, fun _ => ⟨by simp only; omega, by simp only; omega⟩⟩
            · obtain ⟨m, hm⟩ : ∃ m, op.length = m + 1 := ⟨op.length - 1, by omega⟩
              obtain ⟨t, ht⟩ : ∃ t, op[m]? = some t := ⟨_, List.getElem?_eq_getElem (by omega)⟩
              rw [readE_close h h41 hm ht]
              obtain ⟨h1, h2, h3, E, hE, h4, h5, h6⟩ := hop m t ht
              rw [List.getElem?_eq_none (by omega)] at hE
              simp only at hE
              rw [hE] at h4 h6
              have hpl : PlT s t t.at_.toNat (i + 1) := by
                obtain ⟨k, x, nn, l, a⟩ := t
                unfold PlT
                exact ⟨a.toNat, h2, Nat.le_refl _, by simp only [T.at_] at h4; omega, by omega, .inl ⟨h1, h3, chL_to (by omega) (by omega) h6⟩⟩
              obtain ⟨o1, o2⟩ := (hop.take ht).add hpl (Nat.le_refl _) hdn
              exact ih (s.size - (i + 1)) (by omega) (i + 1) _ _ rfl (by omega) o1 o2
          · by_cases hw : (oneE s i (decide (0 < dn.length))).2.2.1 = 0
            · have hend := (oneE_end _ h).2.1 hw
              have hlf := oneE_leaf _ h hw
              rw [readE_leaf h (by omega) (by omega) h40 h41 hw]
              have hat : (oneE s i (decide (0 < dn.length))).1.at_.toNat = i := by rw [hlf.1]; simp
              obtain ⟨o1, o2⟩ := hop.add (dn := dn) (j := (oneE s i (decide (0 < dn.length))).2.1.toNat) (by rw [hat]; exact hlf.2) (by omega) hdn
              exact ih _ (by omega) _ _ _ rfl (by omega) o1 o2
            · rw [readE_bad h (by omega) (by omega) h40 h41 hw]
              exact ⟨fun h => absurd h hw, fun _ => (oneE_end _ h).2.2 hw⟩
    · rw [readE_end h]
      split
      · exact ⟨fun h => by simp at h, fun _ => ⟨by simp only; omega, by simp only; omega⟩⟩
      · cases dn with
        | nil => exact ⟨fun h => by simp at h, fun _ => ⟨by simp only; omega, by simp only; omega⟩⟩
        | cons t r => exact ⟨fun _ => hdn t List.mem_cons_self, fun h => by simp at h⟩
end Go.Proofs.YtldleckgkgeclaaDoor
