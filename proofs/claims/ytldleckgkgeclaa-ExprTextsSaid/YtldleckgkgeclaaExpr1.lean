/-
  Package expr's contracts: count, Made.
-/
import Derived.Test.YtldleckgkgeclaaExpr0
namespace Go.Proofs.Ytldleckgkgeclaa
open Go.RowKit

set_option maxHeartbeats 4000000 in
theorem count_any (s : ByteArray) (w : World) : Calls Try.prog 88 #[.string s] w fun e w' => e = .returned (.int .i64 (cntL s.toList : Nat)) ∧ w = w' := by
  rcases op_cases s.toList with h | h
  · simp only [opsL, opAdd, opSub, opMul, opEq, opLt, opAnd, opOr, opCat, opNeg, opNot, opLen, opIf, List.mem_cons, List.not_mem_nil, or_false] at h
    rcases h with h | h | h | h | h | h | h | h | h | h | h | h
    all_goals
      obtain ⟨q, hq⟩ : ∃ q, q = cntL s.toList := ⟨_, rfl⟩
      rw [← hq]
      rw [h] at hq
      change q = _ at hq
      simp only [cntL, opAdd, opSub, opMul, opEq, opLt, opAnd, opOr, opCat, opNeg, opNot, opLen, opIf] at hq
      simp at hq
      subst hq
      go_enter Try.func88, Try.ntmps88
      go_wp2
      go_ret
      exact ⟨rfl, rfl⟩
  · have hq : cntL s.toList = 0 := by
      have hne : ∀ x ∈ opsL, s.toList ≠ x := fun x hx e => by have := h x hx; rw [e] at this; simp at this
      simp only [opsL, List.mem_cons, List.not_mem_nil, or_false, forall_eq_or_imp, forall_eq] at hne
      obtain ⟨h0, h1, h2, h3, h4, h5, h6, h7, h8, h9, h10, h11⟩ := hne
      simp [cntL, h0, h1, h2, h3, h4, h5, h6, h7, h8, h9, h10, h11]
    rw [hq]
    clear hq
    simp only [opsL, opAdd, opSub, opMul, opEq, opLt, opAnd, opOr, opCat, opNeg, opNot, opLen, opIf, List.mem_cons, List.not_mem_nil, or_false, forall_eq_or_imp, forall_eq] at h
    obtain ⟨h0, h1, h2, h3, h4, h5, h6, h7, h8, h9, h10, h11⟩ := h
    go_enter Try.func88, Try.ntmps88
    go_wp2
    go_ret
    exact ⟨rfl, rfl⟩

def MadeExp (e : E) : Prop := ∀ (A : Option Addr) (c : Nat) (w : World), EKids w w.heap.size A e.kids →
  Calls Try.prog 48 #[e.val A c] w fun r w' => r = .returned (.bool (madeE e)) ∧ Below w.heap.size w w'

theorem made_closure (k : Int) (s : ByteArray) (n : Int) (l : List E) (hM : MadeExp (.mk k s n l)) (A : Option Addr) (c : Nat) (w : World) (hA : EKids w w.heap.size A l) :
    Calls Try.prog 90 #[.agg #[.int .i64 k, .string s, .int .i64 n, .slice A l.length c]] w fun r w' => r = .returned (.bool (!madeE (.mk k s n l))) ∧ Below w.heap.size w w' := by
  have hb0 : Below w.heap.size w (w.alloc (.cells #[.int .i64 k, .string s, .int .i64 n, .slice A l.length c] 35)) := (Below.refl _ _).alloc (Nat.le_refl _) _
  have hc := Lib.hid (hM A c _ ((hA.low hb0).more hb0.size))
  clear hM hA
  simp only [E.val, E.k, E.s, E.n, E.kids] at hc
  generalize madeE (.mk k s n l) = q at *
  generalize l.length = m at *
  go_enter Try.func90, Try.ntmps90
  go_wp2_with fail
  refine (hc.out).mono ?_
  rintro e w' ⟨rfl, hb⟩
  have hb2 := hb0.trans (hb.mono (by simp))
  clear hb hb0
  go_wp2_with fail
  go_ret
  exact ⟨rfl, hb2⟩

set_option maxHeartbeats 400000 in
theorem indexFunc_made (A : Option Addr) (c : Nat) (l : List E) (hM : ∀ e ∈ l, MadeExp e) (w : World) (hA : EKids w w.heap.size A l) :
    Calls Try.prog 127 #[.slice A l.length c, .func (.func 90) #[] #[]] w fun e w' =>
      e = .returned (.int .i64 (idx (fun e => !madeE e) l 0)) ∧ Below w.heap.size w w' := by
  have hn := hA.len
  have HL := Lib.hid hA.get_
  have HM := Lib.hid hM
  obtain ⟨n, en⟩ : ∃ n, n = l.length := ⟨_, rfl⟩
  have Hl := Lib.hid en
  rw [← en] at hn ⊢
  clear hA hM en
  go_enter Try.func127, Try.ntmps127
  go_wp2_with fail
  go_loopw [8] (fun i wr => ∃ k : Nat, k ≤ n ∧ i = .int .i64 k ∧ Below w.heap.size w wr ∧ Hid (idx (fun e => !madeE e) l 0 = idx (fun e => !madeE e) (l.drop k) k)) (fun i _ => n - (intOf i).toNat)
  case atStart => exact ⟨0, Nat.zero_le _, rfl, Below.refl _ _, rfl⟩
  case round =>
    obtain ⟨k, hk, rfl, hbl, hz⟩ := hrel
    by_cases hlt : k < n
    · obtain ⟨x, hx⟩ : ∃ x, l[k]? = some x := ⟨_, List.getElem?_eq_getElem (by rw [← Hl.out]; exact hlt)⟩
      have hst := Lib.hid (hz.out.trans (idx_step (p := fun e => !madeE e) hx))
      obtain ⟨b, o, A', c', rfl, hb, c1, c2, c3, c4, hK⟩ := HL.out wr hbl k x hx
      have hMx := HM.out x (List.mem_of_getElem? hx)
      clear hx hz
      obtain ⟨xk, xs, xn, xl⟩ := x
      simp only [E.k, E.s, E.n, E.kids] at c1 c2 c3 c4 hK
      have hs := hbl.size
      have hcl := Lib.hid (made_closure xk xs xn xl hMx A' c' wr hK)
      clear hMx hK
      by_cases he : madeE (.mk xk xs xn xl) = true
      · rw [he] at hcl
        have hst' : Hid (idx (fun e => !madeE e) l 0 = idx (fun e => !madeE e) (l.drop (k + 1)) (k + 1)) := by
          have := hst.out
          rwa [if_neg (by simp [he])] at this
        clear he hst
        generalize xl.length = xm at *
        go_wp2_with fail
        refine (hcl.out).mono ?_
        rintro e w' ⟨rfl, hb2⟩
        have hb3 := hbl.trans (hb2.mono hs)
        clear hb2
        go_wp2_with fail
        go_roundw
        case rel => exact ⟨k + 1, by omega, by go_num, hb3, hst'⟩
        case measure => simp [intOf]; omega
      · have he' : madeE (.mk xk xs xn xl) = false := by simpa using he
        rw [he'] at hcl
        have hst' : Hid (idx (fun e => !madeE e) l 0 = (k : Int)) := by
          have := hst.out
          rwa [if_pos (by simp [he'])] at this
        clear he he' hst
        generalize xl.length = xm at *
        go_wp2_with fail
        refine (hcl.out).mono ?_
        rintro e w' ⟨rfl, hb2⟩
        have hb3 := hbl.trans (hb2.mono hs)
        clear hb2
        go_wp2_with fail
        go_ret
        exact ⟨by rw [hst'.out]; rfl, hb3⟩
    · go_wp2_with fail
      go_ret
      have e : k = n := by omega
      subst e
      exact ⟨by rw [hz.out, List.drop_of_length_le (by rw [← Hl.out]; omega)]; rfl, hbl⟩

theorem idx_any {α : Type} (p : α → Bool) (l : List α) : ∀ k, decide (0 ≤ idx p l k) = l.any p := by
  induction l with
  | nil => intro k; rfl
  | cons x l ih =>
    intro k
    unfold idx
    by_cases h : p x = true
    · rw [if_pos h]; simp [h]
    · rw [if_neg h, ih]; simp [h]
theorem not_all_ {α : Type} (p : α → Bool) (l : List α) : (!(l.all p)) = l.any fun v => !p v := by
  induction l with
  | nil => rfl
  | cons x l ih => rw [List.all_cons, List.any_cons, Bool.not_and, ih]

theorem containsFunc_made (A : Option Addr) (c : Nat) (l : List E) (hM : ∀ e ∈ l, MadeExp e) (w : World) (hA : EKids w w.heap.size A l) :
    Calls Try.prog 89 #[.slice A l.length c, .func (.func 90) #[] #[]] w fun e w' =>
      e = .returned (.bool (!(madeL l))) ∧ Below w.heap.size w w' := by
  have hc := Lib.hid (indexFunc_made A c l hM w hA)
  have e0 : (!(madeL l)) = decide (0 ≤ idx (fun v => !madeE v) l 0) := by
    rw [idx_any, madeL_all]; exact not_all_ madeE l
  rw [e0]
  clear hA e0 hM
  generalize idx (fun v => !madeE v) l 0 = r at *
  generalize l.length = m at *
  go_enter Try.func89, Try.ntmps89
  go_wp2_with fail
  refine (hc.out).mono ?_
  rintro e w' ⟨rfl, hb⟩
  have HB := Lib.hid hb
  clear hb
  go_wp2_with fail
  go_ret
  exact ⟨rfl, HB.out⟩
end Go.Proofs.Ytldleckgkgeclaa
