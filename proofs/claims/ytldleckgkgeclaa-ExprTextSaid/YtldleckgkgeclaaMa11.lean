/-
  Package confluenceref8's contracts: takes, Right: the same as expr's count, Made.
-/
import Derived.Test.YtldleckgkgeclaaMa4
import Derived.Test.YtldleckgkgeclaaMa10
import Derived.Deep.RegionHeld3
set_option linter.unusedVariables false
set_option linter.unusedSimpArgs false
namespace Go.Proofs.Ytldleckgkgeclaa
open Go.RowKit
set_option maxHeartbeats 4000000 in
theorem takes_any (s : ByteArray) (w : World) : Calls Try.prog 47 #[.string s] w fun e w' => e = .returned (.int .i64 (cntL s.toList : Nat)) ∧ w = w' := by
  rcases op_cases s.toList with h | h
  · simp only [opsL, opAdd, opSub, opMul, opEq, opLt, opAnd, opOr, opCat, opNeg, opNot, opLen, opIf, List.mem_cons, List.not_mem_nil, or_false] at h
    rcases h with h | h | h | h | h | h | h | h | h | h | h | h
    all_goals
      obtain ⟨q, hq⟩ : ∃ q, q = cntL s.toList := ⟨_, rfl⟩
      rw [← hq]
      rw [h] at hq
      change q = _ at hq
      simp only [cntL, opAdd, opSub, opMul, opEq, opLt, opAnd, opOr, opCat, opNeg, opNot, opLen, opIf] at hq
      simp at hq
      subst hq
      go_enter Try.func47, Try.ntmps47
      go_wp2
      go_ret
      exact ⟨rfl, rfl⟩
  · have hq : cntL s.toList = 0 := by
      have hne : ∀ x ∈ opsL, s.toList ≠ x := fun x hx e => by have := h x hx; rw [e] at this; simp at this
      simp only [opsL, List.mem_cons, List.not_mem_nil, or_false, forall_eq_or_imp, forall_eq] at hne
      obtain ⟨h0, h1, h2, h3, h4, h5, h6, h7, h8, h9, h10, h11⟩ := hne
      simp [cntL, h0, h1, h2, h3, h4, h5, h6, h7, h8, h9, h10, h11]
    rw [hq]
    clear hq
    simp only [opsL, opAdd, opSub, opMul, opEq, opLt, opAnd, opOr, opCat, opNeg, opNot, opLen, opIf, List.mem_cons, List.not_mem_nil, or_false, forall_eq_or_imp, forall_eq] at h
    obtain ⟨h0, h1, h2, h3, h4, h5, h6, h7, h8, h9, h10, h11⟩ := h
    go_enter Try.func47, Try.ntmps47
    go_wp2
    go_ret
    exact ⟨rfl, rfl⟩

def RightExp (e : E) : Prop := e.Fine → ∀ (A : Option Addr) (c : Nat) (w : World), EKids w w.heap.size A e.kids →
  Calls Try.prog 50 #[e.val A c] w fun r w' => r = .returned (.bool (madeE e)) ∧ Below w.heap.size w w'
theorem allE_step {l : List E} {k : Nat} {x : E} (hx : l[k]? = some x) : madeL (l.drop k) = (madeE x && madeL (l.drop (k + 1))) := by
  obtain ⟨h1, e1⟩ := List.getElem?_eq_some_iff.1 hx
  rw [List.drop_eq_getElem_cons h1, e1, madeL]
set_option maxRecDepth 100000 in
set_option maxHeartbeats 2000000 in
theorem right_apply (s : ByteArray) (n : Int) (l : List E) (hM0 : ∀ e ∈ l, RightExp e) : RightExp (.mk 4 s n l) := by
  intro hfine A c w hA
  obtain ⟨_, _, _, _, _, _, _, hfk⟩ := hfine
  have hM := fun e he => hM0 e he (hfk e he)
  clear hM0 hfk
  simp only [E.val, E.k, E.s, E.n, E.kids] at hA ⊢
  have hz : Hid (madeE (.mk 4 s n l) = (decide (0 < cntL s.toList) && (cntL s.toList == l.length && (n == 0 && madeL l)))) := Lib.hid (by
    rw [madeE, if_neg (by decide), if_neg (by decide), if_neg (by decide), if_pos rfl])
  obtain ⟨m, em⟩ : ∃ m, m = l.length := ⟨_, rfl⟩
  have Hm := Lib.hid em
  rw [← em] at hz ⊢
  obtain ⟨w1, ew1⟩ : ∃ w1, w1 = (w.alloc (.cells #[.int .i64 4, .string s, .int .i64 n, .slice A m c] 35)) := ⟨_, rfl⟩
  have hb1 : Below w.heap.size w w1 := by rw [ew1]; exact (Below.refl _ _).alloc (Nat.le_refl _) _
  have HW1 := Lib.hid ew1
  have hws : w1.heap.size = w.heap.size + 1 := by rw [ew1]; simp
  have HALL : Hid (∀ w', Below w1.heap.size w1 w' → w'.cell? ⟨w.heap.size, 0, none⟩ = some (.int .i64 4) ∧ w'.cell? ⟨w.heap.size, 1, none⟩ = some (.string s) ∧ w'.cell? ⟨w.heap.size, 2, none⟩ = some (.int .i64 n) ∧ w'.cell? ⟨w.heap.size, 3, none⟩ = some (.slice A m c)) := Lib.hid (by
    have h0 : w1.cell? ⟨w.heap.size, 0, none⟩ = some (.int .i64 4) ∧ w1.cell? ⟨w.heap.size, 1, none⟩ = some (.string s) ∧ w1.cell? ⟨w.heap.size, 2, none⟩ = some (.int .i64 n) ∧ w1.cell? ⟨w.heap.size, 3, none⟩ = some (.slice A m c) := by rw [ew1]; simp
    intro w' hb
    have hlt : w.heap.size < w1.heap.size := by omega
    exact ⟨(hb.cell (p := ⟨w.heap.size, 0, none⟩) hlt).trans h0.1, (hb.cell (p := ⟨w.heap.size, 1, none⟩) hlt).trans h0.2.1, (hb.cell (p := ⟨w.heap.size, 2, none⟩) hlt).trans h0.2.2.1, (hb.cell (p := ⟨w.heap.size, 3, none⟩) hlt).trans h0.2.2.2⟩)
  have LW : Hid (∀ w', Below w1.heap.size w1 w' → Below w.heap.size w w') := Lib.hid fun w' h => hb1.trans (h.mono (by omega))
  have HK := Lib.hid ((hA.low hb1).more hb1.size)
  have hlen := hA.len
  rw [← em] at hlen
  have hTk : Hid (∀ w', Below w1.heap.size w1 w' → Calls Try.prog 47 #[.string s] w' fun e w'' => e = .returned (.int .i64 (cntL s.toList : Nat)) ∧ Below w1.heap.size w1 w'') := Lib.hid fun w' h => (takes_any s w').mono fun e w'' ⟨h1, h2⟩ => ⟨h1, h2 ▸ h⟩
  have HM := Lib.hid hM
  have T0 : Hid (Below w1.heap.size w1 w1.drew) := Lib.hid (Below.refl _ _).drew
  generalize madeE (.mk 4 s n l) = q at *
  generalize cntL s.toList = cn at *
  clear hA hM ew1 hb1 em
  by_cases hn : n = 0
  · subst hn
    by_cases hc : cn = 0
    · subst hc
      obtain rfl : q = false := by rw [hz.out]; rfl
      clear hz HM HK Hm
      go_enter Try.func50, Try.ntmps50
      go_wp2_with fail
      rw [← HW1.out]
      clear HW1
      refine wp_region_held_drew (S := fun w' => w'.cell? ⟨w.heap.size, 0, none⟩ = some (.int .i64 4) ∧ w'.cell? ⟨w.heap.size, 1, none⟩ = some (.string s) ∧ w'.cell? ⟨w.heap.size, 2, none⟩ = some (.int .i64 0) ∧ w'.cell? ⟨w.heap.size, 3, none⟩ = some (.slice A m c)) (by kernel_rfl) (HALL.out _ (Hid.out (by assumption))) (fun hHeld => ?_)
      refine wpAnyH_take (i := 0) (v := .pointer (some ⟨w.heap.size, 2, none⟩)) rfl (by kernel_rfl) (by kernel_rfl) (by kernel_rfl) (fun _ _ _ h => h) (Or.inl ⟨by rfl, fun w1 hSw => by (dsimp only at hSw; go_simp)⟩) (by assumption) ?_
      simp only [List.getElem_toArray, List.getElem_cons_zero, Act.put, List.setIfInBounds_toArray, List.set_cons_zero, List.set_cons_succ]
      refine wpAnyH_take (i := 1) (v := .int .i64 0) rfl (by kernel_rfl) (by kernel_rfl) (by kernel_rfl) (fun _ _ _ h => h) (Or.inl ⟨by rfl, fun w1 hSw => by (dsimp only at hSw; go_simp)⟩) (by assumption) ?_
      simp only [List.getElem_toArray, List.getElem_cons_succ, List.getElem_cons_zero, Act.put, List.setIfInBounds_toArray, List.set_cons_zero, List.set_cons_succ]
      refine wpAnyH_take (i := 2) (v := .bool false) rfl (by kernel_rfl) (by kernel_rfl) (by kernel_rfl) (fun _ _ _ h => h) (Or.inl ⟨by rfl, fun w1 hSw => by (dsimp only at hSw; go_simp)⟩) (by assumption) ?_
      simp only [List.getElem_toArray, List.getElem_cons_succ, List.getElem_cons_zero, Act.put, List.setIfInBounds_toArray, List.set_cons_zero, List.set_cons_succ]
      refine wpAnyH_take (i := 3) (v := .bool false) rfl (by kernel_rfl) (by kernel_rfl) (by kernel_rfl) (fun _ _ _ h => h) (Or.inl ⟨by rfl, fun w1 hSw => by (dsimp only at hSw; go_simp)⟩) (by assumption) ?_
      simp only [List.getElem_toArray, List.getElem_cons_succ, List.getElem_cons_zero, Act.put, List.setIfInBounds_toArray, List.set_cons_zero, List.set_cons_succ]
      refine wpAnyH_take (i := 4) (v := .pointer (some ⟨w.heap.size, 1, none⟩)) rfl (by kernel_rfl) (by kernel_rfl) (by kernel_rfl) (fun _ _ _ h => h) (Or.inl ⟨by rfl, fun w1 hSw => by (dsimp only at hSw; go_simp)⟩) (by assumption) ?_
      simp only [List.getElem_toArray, List.getElem_cons_succ, List.getElem_cons_zero, Act.put, List.setIfInBounds_toArray, List.set_cons_zero, List.set_cons_succ]
      refine wpAnyH_take (i := 5) (v := .string s) rfl (by kernel_rfl) (by kernel_rfl) (by kernel_rfl) (fun _ _ _ h => h) (Or.inl ⟨by rfl, fun w1 hSw => by (dsimp only at hSw; go_simp)⟩) (by assumption) ?_
      simp only [List.getElem_toArray, List.getElem_cons_succ, List.getElem_cons_zero, Act.put, List.setIfInBounds_toArray, List.set_cons_zero, List.set_cons_succ]
      refine wpAnyH_ready (rs := [6]) (by kernel_rfl) (by simp) ?_
      refine AllReadyH.cons rfl (fun K hK => ?_) AllReadyH.nil
      simp only [List.getElem_toArray, List.getElem_cons_succ, List.getElem_cons_zero]
      go_simp
      refine (hTk.out _ (Hid.out (by assumption))).mono ?_
      rintro e w' ⟨rfl, bA⟩
      have U6 := Lib.hid bA
      clear bA  hHeld
      go_wp2_with fail
      refine hK.out _ _ (HALL.out _ (Hid.out (by assumption))) (fun hHeld => ?_)
      clear hK K
      refine wpAnyH_take (i := 7) (v := .bool true) rfl (by kernel_rfl) (by kernel_rfl) (by kernel_rfl) (fun _ _ _ h => h) (Or.inl ⟨by rfl, fun w1 hSw => by (dsimp only at hSw; go_simp)⟩) (by assumption) ?_
      simp only [List.getElem_toArray, List.getElem_cons_succ, List.getElem_cons_zero, Act.put, List.setIfInBounds_toArray, List.set_cons_zero, List.set_cons_succ]
      refine wpAnyH_take (i := 8) (v := .bool true) rfl (by kernel_rfl) (by kernel_rfl) (by kernel_rfl) (fun _ _ _ h => h) (Or.inl ⟨by rfl, fun w1 hSw => by (dsimp only at hSw; go_simp)⟩) (by assumption) ?_
      simp only [List.getElem_toArray, List.getElem_cons_succ, List.getElem_cons_zero, Act.put, List.setIfInBounds_toArray, List.set_cons_zero, List.set_cons_succ]
      refine wpAnyH_take (i := 9) (v := .bool true) rfl (by kernel_rfl) (by kernel_rfl) (by kernel_rfl) (fun _ _ _ h => h) (Or.inl ⟨by rfl, fun w1 hSw => by (dsimp only at hSw; go_simp)⟩) (by assumption) ?_
      simp only [List.getElem_toArray, List.getElem_cons_succ, List.getElem_cons_zero, Act.put, List.setIfInBounds_toArray, List.set_cons_zero, List.set_cons_succ]
      refine wpAnyH_take (i := 10) (v := undef) rfl (by kernel_rfl) (by kernel_rfl) (by kernel_rfl) (fun _ _ _ h => h) (Or.inr ⟨by kernel_rfl, rfl⟩) (by assumption) ?_
      simp only [List.getElem_toArray, List.getElem_cons_succ, List.getElem_cons_zero, Act.put, List.setIfInBounds_toArray, List.set_cons_zero, List.set_cons_succ]
      refine wpAnyH_take (i := 11) (v := undef) rfl (by kernel_rfl) (by kernel_rfl) (by kernel_rfl) (fun _ _ _ h => h) (Or.inr ⟨by kernel_rfl, rfl⟩) (by assumption) ?_
      simp only [List.getElem_toArray, List.getElem_cons_succ, List.getElem_cons_zero, Act.put, List.setIfInBounds_toArray, List.set_cons_zero, List.set_cons_succ]
      refine wpAnyH_take (i := 12) (v := undef) rfl (by kernel_rfl) (by kernel_rfl) (by kernel_rfl) (fun _ _ _ h => h) (Or.inr ⟨by kernel_rfl, rfl⟩) (by assumption) ?_
      simp only [List.getElem_toArray, List.getElem_cons_succ, List.getElem_cons_zero, Act.put, List.setIfInBounds_toArray, List.set_cons_zero, List.set_cons_succ]
      refine wpAnyH_take (i := 13) (v := undef) rfl (by kernel_rfl) (by kernel_rfl) (by kernel_rfl) (fun _ _ _ h => h) (Or.inr ⟨by kernel_rfl, rfl⟩) (by assumption) ?_
      simp only [List.getElem_toArray, List.getElem_cons_succ, List.getElem_cons_zero, Act.put, List.setIfInBounds_toArray, List.set_cons_zero, List.set_cons_succ]
      refine wpAnyH_take (i := 14) (v := undef) rfl (by kernel_rfl) (by kernel_rfl) (by kernel_rfl) (fun _ _ _ h => h) (Or.inr ⟨by kernel_rfl, rfl⟩) (by assumption) ?_
      simp only [List.getElem_toArray, List.getElem_cons_succ, List.getElem_cons_zero, Act.put, List.setIfInBounds_toArray, List.set_cons_zero, List.set_cons_succ]
      refine wpAnyH_take (i := 15) (v := undef) rfl (by kernel_rfl) (by kernel_rfl) (by kernel_rfl) (fun _ _ _ h => h) (Or.inr ⟨by kernel_rfl, rfl⟩) (by assumption) ?_
      simp only [List.getElem_toArray, List.getElem_cons_succ, List.getElem_cons_zero, Act.put, List.setIfInBounds_toArray, List.set_cons_zero, List.set_cons_succ]
      refine wpAnyH_take (i := 16) (v := undef) rfl (by kernel_rfl) (by kernel_rfl) (by kernel_rfl) (fun _ _ _ h => h) (Or.inr ⟨by kernel_rfl, rfl⟩) (by assumption) ?_
      simp only [List.getElem_toArray, List.getElem_cons_succ, List.getElem_cons_zero, Act.put, List.setIfInBounds_toArray, List.set_cons_zero, List.set_cons_succ]
      refine wpAnyH_take (i := 17) (v := .bool true) rfl (by kernel_rfl) (by kernel_rfl) (by kernel_rfl) (fun _ _ _ h => h) (Or.inl ⟨by rfl, fun w1 hSw => by (dsimp only at hSw; go_simp)⟩) (by assumption) ?_
      simp only [List.getElem_toArray, List.getElem_cons_succ, List.getElem_cons_zero, Act.put, List.setIfInBounds_toArray, List.set_cons_zero, List.set_cons_succ]
      refine wpAnyH_done (by kernel_rfl) ?_ _
      go_wp2_with fail
      go_ret
      exact ⟨rfl, LW.out _ (Hid.out (by assumption))⟩
    have hc' : ((cn : Int) == 0) = false := by simp; omega
    by_cases hm : m = cn
    · subst hm
      have hz2 : Hid (q = madeL l) := Lib.hid (by rw [hz.out, decide_eq_true (by omega)]; simp)
      clear hz
      go_enter Try.func50, Try.ntmps50
      go_wp2_with fail
      rw [← HW1.out]
      clear HW1
      refine wp_region_held_drew (S := fun w' => w'.cell? ⟨w.heap.size, 0, none⟩ = some (.int .i64 4) ∧ w'.cell? ⟨w.heap.size, 1, none⟩ = some (.string s) ∧ w'.cell? ⟨w.heap.size, 2, none⟩ = some (.int .i64 0) ∧ w'.cell? ⟨w.heap.size, 3, none⟩ = some (.slice A m c)) (by kernel_rfl) (HALL.out _ (Hid.out (by assumption))) (fun hHeld => ?_)
      refine wpAnyH_take (i := 0) (v := .pointer (some ⟨w.heap.size, 2, none⟩)) rfl (by kernel_rfl) (by kernel_rfl) (by kernel_rfl) (fun _ _ _ h => h) (Or.inl ⟨by rfl, fun w1 hSw => by (dsimp only at hSw; go_simp)⟩) (by assumption) ?_
      simp only [List.getElem_toArray, List.getElem_cons_zero, Act.put, List.setIfInBounds_toArray, List.set_cons_zero, List.set_cons_succ]
      refine wpAnyH_take (i := 1) (v := .int .i64 0) rfl (by kernel_rfl) (by kernel_rfl) (by kernel_rfl) (fun _ _ _ h => h) (Or.inl ⟨by rfl, fun w1 hSw => by (dsimp only at hSw; go_simp)⟩) (by assumption) ?_
      simp only [List.getElem_toArray, List.getElem_cons_succ, List.getElem_cons_zero, Act.put, List.setIfInBounds_toArray, List.set_cons_zero, List.set_cons_succ]
      refine wpAnyH_take (i := 2) (v := .bool false) rfl (by kernel_rfl) (by kernel_rfl) (by kernel_rfl) (fun _ _ _ h => h) (Or.inl ⟨by rfl, fun w1 hSw => by (dsimp only at hSw; go_simp)⟩) (by assumption) ?_
      simp only [List.getElem_toArray, List.getElem_cons_succ, List.getElem_cons_zero, Act.put, List.setIfInBounds_toArray, List.set_cons_zero, List.set_cons_succ]
      refine wpAnyH_take (i := 3) (v := .bool false) rfl (by kernel_rfl) (by kernel_rfl) (by kernel_rfl) (fun _ _ _ h => h) (Or.inl ⟨by rfl, fun w1 hSw => by (dsimp only at hSw; go_simp)⟩) (by assumption) ?_
      simp only [List.getElem_toArray, List.getElem_cons_succ, List.getElem_cons_zero, Act.put, List.setIfInBounds_toArray, List.set_cons_zero, List.set_cons_succ]
      refine wpAnyH_take (i := 4) (v := .pointer (some ⟨w.heap.size, 1, none⟩)) rfl (by kernel_rfl) (by kernel_rfl) (by kernel_rfl) (fun _ _ _ h => h) (Or.inl ⟨by rfl, fun w1 hSw => by (dsimp only at hSw; go_simp)⟩) (by assumption) ?_
      simp only [List.getElem_toArray, List.getElem_cons_succ, List.getElem_cons_zero, Act.put, List.setIfInBounds_toArray, List.set_cons_zero, List.set_cons_succ]
      refine wpAnyH_take (i := 5) (v := .string s) rfl (by kernel_rfl) (by kernel_rfl) (by kernel_rfl) (fun _ _ _ h => h) (Or.inl ⟨by rfl, fun w1 hSw => by (dsimp only at hSw; go_simp)⟩) (by assumption) ?_
      simp only [List.getElem_toArray, List.getElem_cons_succ, List.getElem_cons_zero, Act.put, List.setIfInBounds_toArray, List.set_cons_zero, List.set_cons_succ]
      refine wpAnyH_ready (rs := [6]) (by kernel_rfl) (by simp) ?_
      refine AllReadyH.cons rfl (fun K hK => ?_) AllReadyH.nil
      simp only [List.getElem_toArray, List.getElem_cons_succ, List.getElem_cons_zero]
      go_simp
      refine (hTk.out _ (Hid.out (by assumption))).mono ?_
      rintro e w' ⟨rfl, bA⟩
      have U6 := Lib.hid bA
      clear bA  hHeld
      go_wp2_with fail
      refine hK.out _ _ (HALL.out _ (Hid.out (by assumption))) (fun hHeld => ?_)
      clear hK K
      refine wpAnyH_take (i := 7) (v := .bool false) rfl (by kernel_rfl) (by kernel_rfl) (by kernel_rfl) (fun _ _ _ h => h) (Or.inl ⟨by rfl, fun w1 hSw => by (dsimp only at hSw; go_simp)⟩) (by assumption) ?_
      simp only [List.getElem_toArray, List.getElem_cons_succ, List.getElem_cons_zero, Act.put, List.setIfInBounds_toArray, List.set_cons_zero, List.set_cons_succ]
      refine wpAnyH_take (i := 8) (v := .bool false) rfl (by kernel_rfl) (by kernel_rfl) (by kernel_rfl) (fun _ _ _ h => h) (Or.inl ⟨by rfl, fun w1 hSw => by (dsimp only at hSw; go_simp)⟩) (by assumption) ?_
      simp only [List.getElem_toArray, List.getElem_cons_succ, List.getElem_cons_zero, Act.put, List.setIfInBounds_toArray, List.set_cons_zero, List.set_cons_succ]
      refine wpAnyH_take (i := 9) (v := .bool false) rfl (by kernel_rfl) (by kernel_rfl) (by kernel_rfl) (fun _ _ _ h => h) (Or.inl ⟨by rfl, fun w1 hSw => by (dsimp only at hSw; go_simp)⟩) (by assumption) ?_
      simp only [List.getElem_toArray, List.getElem_cons_succ, List.getElem_cons_zero, Act.put, List.setIfInBounds_toArray, List.set_cons_zero, List.set_cons_succ]
      refine wpAnyH_take (i := 10) (v := .pointer (some ⟨w.heap.size, 3, none⟩)) rfl (by kernel_rfl) (by kernel_rfl) (by kernel_rfl) (fun _ _ _ h => h) (Or.inl ⟨by rfl, fun w1 hSw => by (dsimp only at hSw; go_simp)⟩) (by assumption) ?_
      simp only [List.getElem_toArray, List.getElem_cons_succ, List.getElem_cons_zero, Act.put, List.setIfInBounds_toArray, List.set_cons_zero, List.set_cons_succ]
      refine wpAnyH_take (i := 11) (v := .slice A m c) rfl (by kernel_rfl) (by kernel_rfl) (by kernel_rfl) (fun _ _ _ h => h) (Or.inl ⟨by rfl, fun w1 hSw => by (dsimp only at hSw; go_simp)⟩) (by assumption) ?_
      simp only [List.getElem_toArray, List.getElem_cons_succ, List.getElem_cons_zero, Act.put, List.setIfInBounds_toArray, List.set_cons_zero, List.set_cons_succ]
      refine wpAnyH_take (i := 12) (v := .int .i64 m) rfl (by kernel_rfl) (by kernel_rfl) (by kernel_rfl) (fun _ _ _ h => h) (Or.inl ⟨by rfl, fun w1 hSw => by (dsimp only at hSw; go_simp)⟩) (by assumption) ?_
      simp only [List.getElem_toArray, List.getElem_cons_succ, List.getElem_cons_zero, Act.put, List.setIfInBounds_toArray, List.set_cons_zero, List.set_cons_succ]
      refine wpAnyH_take (i := 13) (v := .pointer (some ⟨w.heap.size, 1, none⟩)) rfl (by kernel_rfl) (by kernel_rfl) (by kernel_rfl) (fun _ _ _ h => h) (Or.inl ⟨by rfl, fun w1 hSw => by (dsimp only at hSw; go_simp)⟩) (by assumption) ?_
      simp only [List.getElem_toArray, List.getElem_cons_succ, List.getElem_cons_zero, Act.put, List.setIfInBounds_toArray, List.set_cons_zero, List.set_cons_succ]
      refine wpAnyH_take (i := 14) (v := .string s) rfl (by kernel_rfl) (by kernel_rfl) (by kernel_rfl) (fun _ _ _ h => h) (Or.inl ⟨by rfl, fun w1 hSw => by (dsimp only at hSw; go_simp)⟩) (by assumption) ?_
      simp only [List.getElem_toArray, List.getElem_cons_succ, List.getElem_cons_zero, Act.put, List.setIfInBounds_toArray, List.set_cons_zero, List.set_cons_succ]
      refine wpAnyH_ready (rs := [15]) (by kernel_rfl) (by simp) ?_
      refine AllReadyH.cons rfl (fun K hK => ?_) AllReadyH.nil
      simp only [List.getElem_toArray, List.getElem_cons_succ, List.getElem_cons_zero]
      go_simp
      refine (hTk.out _ (Hid.out (by assumption))).mono ?_
      rintro e w' ⟨rfl, bA⟩
      have U15 := Lib.hid bA
      clear bA  hHeld
      go_wp2_with fail
      refine hK.out _ _ (HALL.out _ (Hid.out (by assumption))) (fun hHeld => ?_)
      clear hK K
      refine wpAnyH_take (i := 16) (v := .bool false) rfl (by kernel_rfl) (by kernel_rfl) (by kernel_rfl) (fun _ _ _ h => h) (Or.inl ⟨by rfl, fun w1 hSw => by (dsimp only at hSw; go_simp)⟩) (by assumption) ?_
      simp only [List.getElem_toArray, List.getElem_cons_succ, List.getElem_cons_zero, Act.put, List.setIfInBounds_toArray, List.set_cons_zero, List.set_cons_succ]
      refine wpAnyH_take (i := 17) (v := .bool false) rfl (by kernel_rfl) (by kernel_rfl) (by kernel_rfl) (fun _ _ _ h => h) (Or.inl ⟨by rfl, fun w1 hSw => by (dsimp only at hSw; go_simp)⟩) (by assumption) ?_
      simp only [List.getElem_toArray, List.getElem_cons_succ, List.getElem_cons_zero, Act.put, List.setIfInBounds_toArray, List.set_cons_zero, List.set_cons_succ]
      refine wpAnyH_done (by kernel_rfl) ?_ _
      go_wp2_with fail
      go_loopw [3] (fun i wr => ∃ k : Nat, k ≤ m ∧ i = .int .i64 k ∧ Below w1.heap.size w1 wr ∧ Hid (madeL l = madeL (l.drop k))) (fun i _ => m - (intOf i).toNat)
      case atStart => exact ⟨0, Nat.zero_le _, rfl, Hid.out (by assumption), Lib.hid rfl⟩
      case round =>
        obtain ⟨k, hk, rfl, hb, hzl⟩ := hrel
        obtain ⟨b0, b1, b2, b3⟩ := HALL.out wr hb
        have hs := hb.size
        have HB := Lib.hid hb
        by_cases hlt : k < m
        · obtain ⟨x, hx⟩ : ∃ x, l[k]? = some x := ⟨_, List.getElem?_eq_getElem (by rw [← Hm.out]; exact hlt)⟩
          have hst := Lib.hid (hzl.out.trans (allE_step hx))
          obtain ⟨bb, o, A', c', rfl, hbl, d1, d2, d3, d4, hKx⟩ := HK.out.get_ wr hb k x hx
          have hMx := HM.out x (List.mem_of_getElem? hx)
          clear hx hzl hb
          obtain ⟨xk, xs, xn, xl⟩ := x
          simp only [E.k, E.s, E.n, E.kids] at d1 d2 d3 d4 hKx
          have hcl := Lib.hid (hMx A' c' wr hKx)
          simp only [E.val, E.k, E.s, E.n, E.kids] at hcl
          clear hMx hKx
          generalize xl.length = xm at *
          cases hmx : madeE (.mk xk xs xn xl)
          · rw [hmx] at hcl hst
            have hq : Hid (q = false) := Lib.hid (by rw [hz2.out, hst.out, Bool.false_and])
            clear hst hmx
            go_wp2_with fail
            refine (hcl.out).mono ?_
            rintro e w3 ⟨rfl, hb3⟩
            have HB3 := Lib.hid (HB.out.trans (hb3.mono hs))
            clear hb3 hcl
            go_wp2_with fail
            go_ret
            exact ⟨by rw [hq.out]; rfl, LW.out _ HB3.out⟩
          · rw [hmx] at hcl hst
            have hst2 : Hid (madeL l = madeL (l.drop (k + 1))) := Lib.hid (by rw [hst.out, Bool.true_and])
            clear hst hmx
            go_wp2_with fail
            refine (hcl.out).mono ?_
            rintro e w3 ⟨rfl, hb3⟩
            have HB3 := Lib.hid (HB.out.trans (hb3.mono hs))
            clear hb3 hcl
            go_wp2_with fail
            go_roundw
            case rel => exact ⟨k + 1, by omega, by go_num, HB3.out, hst2⟩
            case measure => simp [intOf]; omega
        · obtain rfl : k = m := by omega
          have hq : Hid (q = true) := Lib.hid (by rw [hz2.out, hzl.out, List.drop_of_length_le (by rw [← Hm.out]; exact Nat.le_refl _)]; rfl)
          clear hzl hb
          go_wp2_with fail
          go_ret
          exact ⟨by rw [hq.out]; rfl, LW.out _ HB.out⟩
    · have hm' : ((m : Int) != (cn : Int)) = true := by simp; omega
      obtain rfl : q = false := by rw [hz.out, show (cn == m) = false by simpa using fun h => hm h.symm]; simp
      clear hz HM HK Hm
      go_enter Try.func50, Try.ntmps50
      go_wp2_with fail
      rw [← HW1.out]
      clear HW1
      refine wp_region_held_drew (S := fun w' => w'.cell? ⟨w.heap.size, 0, none⟩ = some (.int .i64 4) ∧ w'.cell? ⟨w.heap.size, 1, none⟩ = some (.string s) ∧ w'.cell? ⟨w.heap.size, 2, none⟩ = some (.int .i64 0) ∧ w'.cell? ⟨w.heap.size, 3, none⟩ = some (.slice A m c)) (by kernel_rfl) (HALL.out _ (Hid.out (by assumption))) (fun hHeld => ?_)
      refine wpAnyH_take (i := 0) (v := .pointer (some ⟨w.heap.size, 2, none⟩)) rfl (by kernel_rfl) (by kernel_rfl) (by kernel_rfl) (fun _ _ _ h => h) (Or.inl ⟨by rfl, fun w1 hSw => by (dsimp only at hSw; go_simp)⟩) (by assumption) ?_
      simp only [List.getElem_toArray, List.getElem_cons_zero, Act.put, List.setIfInBounds_toArray, List.set_cons_zero, List.set_cons_succ]
      refine wpAnyH_take (i := 1) (v := .int .i64 0) rfl (by kernel_rfl) (by kernel_rfl) (by kernel_rfl) (fun _ _ _ h => h) (Or.inl ⟨by rfl, fun w1 hSw => by (dsimp only at hSw; go_simp)⟩) (by assumption) ?_
      simp only [List.getElem_toArray, List.getElem_cons_succ, List.getElem_cons_zero, Act.put, List.setIfInBounds_toArray, List.set_cons_zero, List.set_cons_succ]
      refine wpAnyH_take (i := 2) (v := .bool false) rfl (by kernel_rfl) (by kernel_rfl) (by kernel_rfl) (fun _ _ _ h => h) (Or.inl ⟨by rfl, fun w1 hSw => by (dsimp only at hSw; go_simp)⟩) (by assumption) ?_
      simp only [List.getElem_toArray, List.getElem_cons_succ, List.getElem_cons_zero, Act.put, List.setIfInBounds_toArray, List.set_cons_zero, List.set_cons_succ]
      refine wpAnyH_take (i := 3) (v := .bool false) rfl (by kernel_rfl) (by kernel_rfl) (by kernel_rfl) (fun _ _ _ h => h) (Or.inl ⟨by rfl, fun w1 hSw => by (dsimp only at hSw; go_simp)⟩) (by assumption) ?_
      simp only [List.getElem_toArray, List.getElem_cons_succ, List.getElem_cons_zero, Act.put, List.setIfInBounds_toArray, List.set_cons_zero, List.set_cons_succ]
      refine wpAnyH_take (i := 4) (v := .pointer (some ⟨w.heap.size, 1, none⟩)) rfl (by kernel_rfl) (by kernel_rfl) (by kernel_rfl) (fun _ _ _ h => h) (Or.inl ⟨by rfl, fun w1 hSw => by (dsimp only at hSw; go_simp)⟩) (by assumption) ?_
      simp only [List.getElem_toArray, List.getElem_cons_succ, List.getElem_cons_zero, Act.put, List.setIfInBounds_toArray, List.set_cons_zero, List.set_cons_succ]
      refine wpAnyH_take (i := 5) (v := .string s) rfl (by kernel_rfl) (by kernel_rfl) (by kernel_rfl) (fun _ _ _ h => h) (Or.inl ⟨by rfl, fun w1 hSw => by (dsimp only at hSw; go_simp)⟩) (by assumption) ?_
      simp only [List.getElem_toArray, List.getElem_cons_succ, List.getElem_cons_zero, Act.put, List.setIfInBounds_toArray, List.set_cons_zero, List.set_cons_succ]
      refine wpAnyH_ready (rs := [6]) (by kernel_rfl) (by simp) ?_
      refine AllReadyH.cons rfl (fun K hK => ?_) AllReadyH.nil
      simp only [List.getElem_toArray, List.getElem_cons_succ, List.getElem_cons_zero]
      go_simp
      refine (hTk.out _ (Hid.out (by assumption))).mono ?_
      rintro e w' ⟨rfl, bA⟩
      have U6 := Lib.hid bA
      clear bA  hHeld
      go_wp2_with fail
      refine hK.out _ _ (HALL.out _ (Hid.out (by assumption))) (fun hHeld => ?_)
      clear hK K
      refine wpAnyH_take (i := 7) (v := .bool false) rfl (by kernel_rfl) (by kernel_rfl) (by kernel_rfl) (fun _ _ _ h => h) (Or.inl ⟨by rfl, fun w1 hSw => by (dsimp only at hSw; go_simp)⟩) (by assumption) ?_
      simp only [List.getElem_toArray, List.getElem_cons_succ, List.getElem_cons_zero, Act.put, List.setIfInBounds_toArray, List.set_cons_zero, List.set_cons_succ]
      refine wpAnyH_take (i := 8) (v := .bool false) rfl (by kernel_rfl) (by kernel_rfl) (by kernel_rfl) (fun _ _ _ h => h) (Or.inl ⟨by rfl, fun w1 hSw => by (dsimp only at hSw; go_simp)⟩) (by assumption) ?_
      simp only [List.getElem_toArray, List.getElem_cons_succ, List.getElem_cons_zero, Act.put, List.setIfInBounds_toArray, List.set_cons_zero, List.set_cons_succ]
      refine wpAnyH_take (i := 9) (v := .bool false) rfl (by kernel_rfl) (by kernel_rfl) (by kernel_rfl) (fun _ _ _ h => h) (Or.inl ⟨by rfl, fun w1 hSw => by (dsimp only at hSw; go_simp)⟩) (by assumption) ?_
      simp only [List.getElem_toArray, List.getElem_cons_succ, List.getElem_cons_zero, Act.put, List.setIfInBounds_toArray, List.set_cons_zero, List.set_cons_succ]
      refine wpAnyH_take (i := 10) (v := .pointer (some ⟨w.heap.size, 3, none⟩)) rfl (by kernel_rfl) (by kernel_rfl) (by kernel_rfl) (fun _ _ _ h => h) (Or.inl ⟨by rfl, fun w1 hSw => by (dsimp only at hSw; go_simp)⟩) (by assumption) ?_
      simp only [List.getElem_toArray, List.getElem_cons_succ, List.getElem_cons_zero, Act.put, List.setIfInBounds_toArray, List.set_cons_zero, List.set_cons_succ]
      refine wpAnyH_take (i := 11) (v := .slice A m c) rfl (by kernel_rfl) (by kernel_rfl) (by kernel_rfl) (fun _ _ _ h => h) (Or.inl ⟨by rfl, fun w1 hSw => by (dsimp only at hSw; go_simp)⟩) (by assumption) ?_
      simp only [List.getElem_toArray, List.getElem_cons_succ, List.getElem_cons_zero, Act.put, List.setIfInBounds_toArray, List.set_cons_zero, List.set_cons_succ]
      refine wpAnyH_take (i := 12) (v := .int .i64 m) rfl (by kernel_rfl) (by kernel_rfl) (by kernel_rfl) (fun _ _ _ h => h) (Or.inl ⟨by rfl, fun w1 hSw => by (dsimp only at hSw; go_simp)⟩) (by assumption) ?_
      simp only [List.getElem_toArray, List.getElem_cons_succ, List.getElem_cons_zero, Act.put, List.setIfInBounds_toArray, List.set_cons_zero, List.set_cons_succ]
      refine wpAnyH_take (i := 13) (v := .pointer (some ⟨w.heap.size, 1, none⟩)) rfl (by kernel_rfl) (by kernel_rfl) (by kernel_rfl) (fun _ _ _ h => h) (Or.inl ⟨by rfl, fun w1 hSw => by (dsimp only at hSw; go_simp)⟩) (by assumption) ?_
      simp only [List.getElem_toArray, List.getElem_cons_succ, List.getElem_cons_zero, Act.put, List.setIfInBounds_toArray, List.set_cons_zero, List.set_cons_succ]
      refine wpAnyH_take (i := 14) (v := .string s) rfl (by kernel_rfl) (by kernel_rfl) (by kernel_rfl) (fun _ _ _ h => h) (Or.inl ⟨by rfl, fun w1 hSw => by (dsimp only at hSw; go_simp)⟩) (by assumption) ?_
      simp only [List.getElem_toArray, List.getElem_cons_succ, List.getElem_cons_zero, Act.put, List.setIfInBounds_toArray, List.set_cons_zero, List.set_cons_succ]
      refine wpAnyH_ready (rs := [15]) (by kernel_rfl) (by simp) ?_
      refine AllReadyH.cons rfl (fun K hK => ?_) AllReadyH.nil
      simp only [List.getElem_toArray, List.getElem_cons_succ, List.getElem_cons_zero]
      go_simp
      refine (hTk.out _ (Hid.out (by assumption))).mono ?_
      rintro e w' ⟨rfl, bA⟩
      have U15 := Lib.hid bA
      clear bA  hHeld
      go_wp2_with fail
      refine hK.out _ _ (HALL.out _ (Hid.out (by assumption))) (fun hHeld => ?_)
      clear hK K
      refine wpAnyH_take (i := 16) (v := .bool true) rfl (by kernel_rfl) (by kernel_rfl) (by kernel_rfl) (fun _ _ _ h => h) (Or.inl ⟨by rfl, fun w1 hSw => by (dsimp only at hSw; go_simp)⟩) (by assumption) ?_
      simp only [List.getElem_toArray, List.getElem_cons_succ, List.getElem_cons_zero, Act.put, List.setIfInBounds_toArray, List.set_cons_zero, List.set_cons_succ]
      refine wpAnyH_take (i := 17) (v := .bool true) rfl (by kernel_rfl) (by kernel_rfl) (by kernel_rfl) (fun _ _ _ h => h) (Or.inl ⟨by rfl, fun w1 hSw => by (dsimp only at hSw; go_simp)⟩) (by assumption) ?_
      simp only [List.getElem_toArray, List.getElem_cons_succ, List.getElem_cons_zero, Act.put, List.setIfInBounds_toArray, List.set_cons_zero, List.set_cons_succ]
      refine wpAnyH_done (by kernel_rfl) ?_ _
      go_wp2_with fail
      go_ret
      exact ⟨rfl, LW.out _ (Hid.out (by assumption))⟩
  · have hn' : (n != 0) = true := by simpa using hn
    have hn2 : (n == 0) = false := by simpa using hn
    obtain rfl : q = false := by rw [hz.out, hn2]; simp
    clear hz HM HK Hm hn
    go_enter Try.func50, Try.ntmps50
    go_wp2_with fail
    rw [← HW1.out]
    clear HW1
    refine wp_region_held_drew (S := fun w' => w'.cell? ⟨w.heap.size, 0, none⟩ = some (.int .i64 4) ∧ w'.cell? ⟨w.heap.size, 1, none⟩ = some (.string s) ∧ w'.cell? ⟨w.heap.size, 2, none⟩ = some (.int .i64 n) ∧ w'.cell? ⟨w.heap.size, 3, none⟩ = some (.slice A m c)) (by kernel_rfl) (HALL.out _ (Hid.out (by assumption))) (fun hHeld => ?_)
    refine wpAnyH_take (i := 0) (v := .pointer (some ⟨w.heap.size, 2, none⟩)) rfl (by kernel_rfl) (by kernel_rfl) (by kernel_rfl) (fun _ _ _ h => h) (Or.inl ⟨by rfl, fun w1 hSw => by (dsimp only at hSw; go_simp)⟩) (by assumption) ?_
    simp only [List.getElem_toArray, List.getElem_cons_zero, Act.put, List.setIfInBounds_toArray, List.set_cons_zero, List.set_cons_succ]
    refine wpAnyH_take (i := 1) (v := .int .i64 n) rfl (by kernel_rfl) (by kernel_rfl) (by kernel_rfl) (fun _ _ _ h => h) (Or.inl ⟨by rfl, fun w1 hSw => by (dsimp only at hSw; go_simp)⟩) (by assumption) ?_
    simp only [List.getElem_toArray, List.getElem_cons_succ, List.getElem_cons_zero, Act.put, List.setIfInBounds_toArray, List.set_cons_zero, List.set_cons_succ]
    refine wpAnyH_take (i := 2) (v := .bool true) rfl (by kernel_rfl) (by kernel_rfl) (by kernel_rfl) (fun _ _ _ h => h) (Or.inl ⟨by rfl, fun w1 hSw => by (dsimp only at hSw; go_simp)⟩) (by assumption) ?_
    simp only [List.getElem_toArray, List.getElem_cons_succ, List.getElem_cons_zero, Act.put, List.setIfInBounds_toArray, List.set_cons_zero, List.set_cons_succ]
    refine wpAnyH_take (i := 3) (v := .bool true) rfl (by kernel_rfl) (by kernel_rfl) (by kernel_rfl) (fun _ _ _ h => h) (Or.inl ⟨by rfl, fun w1 hSw => by (dsimp only at hSw; go_simp)⟩) (by assumption) ?_
    simp only [List.getElem_toArray, List.getElem_cons_succ, List.getElem_cons_zero, Act.put, List.setIfInBounds_toArray, List.set_cons_zero, List.set_cons_succ]
    refine wpAnyH_take (i := 4) (v := undef) rfl (by kernel_rfl) (by kernel_rfl) (by kernel_rfl) (fun _ _ _ h => h) (Or.inr ⟨by kernel_rfl, rfl⟩) (by assumption) ?_
    simp only [List.getElem_toArray, List.getElem_cons_succ, List.getElem_cons_zero, Act.put, List.setIfInBounds_toArray, List.set_cons_zero, List.set_cons_succ]
    refine wpAnyH_take (i := 5) (v := undef) rfl (by kernel_rfl) (by kernel_rfl) (by kernel_rfl) (fun _ _ _ h => h) (Or.inr ⟨by kernel_rfl, rfl⟩) (by assumption) ?_
    simp only [List.getElem_toArray, List.getElem_cons_succ, List.getElem_cons_zero, Act.put, List.setIfInBounds_toArray, List.set_cons_zero, List.set_cons_succ]
    refine wpAnyH_take (i := 6) (v := undef) rfl (by kernel_rfl) (by kernel_rfl) (by kernel_rfl) (fun _ _ _ h => h) (Or.inr ⟨by kernel_rfl, rfl⟩) (by assumption) ?_
    simp only [List.getElem_toArray, List.getElem_cons_succ, List.getElem_cons_zero, Act.put, List.setIfInBounds_toArray, List.set_cons_zero, List.set_cons_succ]
    refine wpAnyH_take (i := 7) (v := undef) rfl (by kernel_rfl) (by kernel_rfl) (by kernel_rfl) (fun _ _ _ h => h) (Or.inr ⟨by kernel_rfl, rfl⟩) (by assumption) ?_
    simp only [List.getElem_toArray, List.getElem_cons_succ, List.getElem_cons_zero, Act.put, List.setIfInBounds_toArray, List.set_cons_zero, List.set_cons_succ]
    refine wpAnyH_take (i := 8) (v := .bool true) rfl (by kernel_rfl) (by kernel_rfl) (by kernel_rfl) (fun _ _ _ h => h) (Or.inl ⟨by rfl, fun w1 hSw => by (dsimp only at hSw; go_simp)⟩) (by assumption) ?_
    simp only [List.getElem_toArray, List.getElem_cons_succ, List.getElem_cons_zero, Act.put, List.setIfInBounds_toArray, List.set_cons_zero, List.set_cons_succ]
    refine wpAnyH_take (i := 9) (v := .bool true) rfl (by kernel_rfl) (by kernel_rfl) (by kernel_rfl) (fun _ _ _ h => h) (Or.inl ⟨by rfl, fun w1 hSw => by (dsimp only at hSw; go_simp)⟩) (by assumption) ?_
    simp only [List.getElem_toArray, List.getElem_cons_succ, List.getElem_cons_zero, Act.put, List.setIfInBounds_toArray, List.set_cons_zero, List.set_cons_succ]
    refine wpAnyH_take (i := 10) (v := undef) rfl (by kernel_rfl) (by kernel_rfl) (by kernel_rfl) (fun _ _ _ h => h) (Or.inr ⟨by kernel_rfl, rfl⟩) (by assumption) ?_
    simp only [List.getElem_toArray, List.getElem_cons_succ, List.getElem_cons_zero, Act.put, List.setIfInBounds_toArray, List.set_cons_zero, List.set_cons_succ]
    refine wpAnyH_take (i := 11) (v := undef) rfl (by kernel_rfl) (by kernel_rfl) (by kernel_rfl) (fun _ _ _ h => h) (Or.inr ⟨by kernel_rfl, rfl⟩) (by assumption) ?_
    simp only [List.getElem_toArray, List.getElem_cons_succ, List.getElem_cons_zero, Act.put, List.setIfInBounds_toArray, List.set_cons_zero, List.set_cons_succ]
    refine wpAnyH_take (i := 12) (v := undef) rfl (by kernel_rfl) (by kernel_rfl) (by kernel_rfl) (fun _ _ _ h => h) (Or.inr ⟨by kernel_rfl, rfl⟩) (by assumption) ?_
    simp only [List.getElem_toArray, List.getElem_cons_succ, List.getElem_cons_zero, Act.put, List.setIfInBounds_toArray, List.set_cons_zero, List.set_cons_succ]
    refine wpAnyH_take (i := 13) (v := undef) rfl (by kernel_rfl) (by kernel_rfl) (by kernel_rfl) (fun _ _ _ h => h) (Or.inr ⟨by kernel_rfl, rfl⟩) (by assumption) ?_
    simp only [List.getElem_toArray, List.getElem_cons_succ, List.getElem_cons_zero, Act.put, List.setIfInBounds_toArray, List.set_cons_zero, List.set_cons_succ]
    refine wpAnyH_take (i := 14) (v := undef) rfl (by kernel_rfl) (by kernel_rfl) (by kernel_rfl) (fun _ _ _ h => h) (Or.inr ⟨by kernel_rfl, rfl⟩) (by assumption) ?_
    simp only [List.getElem_toArray, List.getElem_cons_succ, List.getElem_cons_zero, Act.put, List.setIfInBounds_toArray, List.set_cons_zero, List.set_cons_succ]
    refine wpAnyH_take (i := 15) (v := undef) rfl (by kernel_rfl) (by kernel_rfl) (by kernel_rfl) (fun _ _ _ h => h) (Or.inr ⟨by kernel_rfl, rfl⟩) (by assumption) ?_
    simp only [List.getElem_toArray, List.getElem_cons_succ, List.getElem_cons_zero, Act.put, List.setIfInBounds_toArray, List.set_cons_zero, List.set_cons_succ]
    refine wpAnyH_take (i := 16) (v := undef) rfl (by kernel_rfl) (by kernel_rfl) (by kernel_rfl) (fun _ _ _ h => h) (Or.inr ⟨by kernel_rfl, rfl⟩) (by assumption) ?_
    simp only [List.getElem_toArray, List.getElem_cons_succ, List.getElem_cons_zero, Act.put, List.setIfInBounds_toArray, List.set_cons_zero, List.set_cons_succ]
    refine wpAnyH_take (i := 17) (v := .bool true) rfl (by kernel_rfl) (by kernel_rfl) (by kernel_rfl) (fun _ _ _ h => h) (Or.inl ⟨by rfl, fun w1 hSw => by (dsimp only at hSw; go_simp)⟩) (by assumption) ?_
    simp only [List.getElem_toArray, List.getElem_cons_succ, List.getElem_cons_zero, Act.put, List.setIfInBounds_toArray, List.set_cons_zero, List.set_cons_succ]
    refine wpAnyH_done (by kernel_rfl) ?_ _
    go_wp2_with fail
    go_ret
    exact ⟨rfl, LW.out _ (Hid.out (by assumption))⟩
set_option maxRecDepth 100000 in
set_option maxHeartbeats 1000000 in
theorem right_leaf (k : Int) (s : ByteArray) (n : Int) (l : List E) (h4 : k ≠ 4) : RightExp (.mk k s n l) := by
  intro hfine A c w hA
  obtain ⟨_, _, _, _, _, _, hfs, _⟩ := hfine
  simp only [E.val, E.k, E.s, E.n, E.kids] at hA ⊢
  have hb0 : Below w.heap.size w (w.alloc (.cells #[.int .i64 k, .string s, .int .i64 n, .slice A l.length c] 35)) := (Below.refl _ _).alloc (Nat.le_refl _) _
  have HB0 := Lib.hid hb0
  have hN := Lib.hid (refName_any s (by omega))
  have hc : Hid True := Lib.hid trivial
  have hC : Hid True := Lib.hid trivial
  have hlen := hA.len
  have hz : Hid (madeE (.mk k s n l) = if k = 1 then nameB s && (n == 0 && l.length == 0) else if k = 2 then s.toList.isEmpty && l.length == 0
    else if k = 3 then n == 0 && l.length == 0 else if k = 4 then decide (0 < cntL s.toList) && (cntL s.toList == l.length && (n == 0 && madeL l)) else false) := Lib.hid (by rw [madeE])
  generalize madeE (.mk k s n l) = q at *
  generalize nameB s = qn at *
  generalize cntL s.toList = cn at *
  generalize madeL l = ql at *
  generalize l.length = m at *
  clear hA hb0 hfs
  by_cases h1 : k = 1
  · subst h1
    have hz1 : Hid (q = (qn && (n == 0 && m == 0))) := Lib.hid (by rw [hz.out, if_pos rfl])
    clear hz hc hC
    cases qn
    · obtain rfl : q = false := by rw [hz1.out]; rfl
      go_enter Try.func50, Try.ntmps50
      go_wp2_with fail
      refine (hN.out _).mono ?_
      rintro e w' ⟨rfl, hbn⟩
      have HBN := Lib.hid (HB0.out.trans (hbn.mono (by simp)))
      have g2 := (hbn.cell (p := ⟨w.heap.size, 2, none⟩) (by simp)).trans (by simp; rfl)
      have g3 := (hbn.cell (p := ⟨w.heap.size, 3, none⟩) (by simp)).trans (by simp; rfl)
      clear hbn
      go_wp2_with fail
      go_ret
      exact ⟨rfl, HBN.out⟩
    · by_cases hn : n = 0
      · subst hn
        have hz2 : Hid (q = ((m : Int) == 0)) := Lib.hid (by rw [hz1.out, nat_beq0]; simp)
        clear hz1
        go_enter Try.func50, Try.ntmps50
        go_wp2_with fail
        refine (hN.out _).mono ?_
        rintro e w' ⟨rfl, hbn⟩
        have HBN := Lib.hid (HB0.out.trans (hbn.mono (by simp)))
        have g2 := (hbn.cell (p := ⟨w.heap.size, 2, none⟩) (by simp)).trans (by simp; rfl)
        have g3 := (hbn.cell (p := ⟨w.heap.size, 3, none⟩) (by simp)).trans (by simp; rfl)
        clear hbn
        go_wp2_with fail
        go_ret
        exact ⟨by rw [hz2.out]; rfl, HBN.out⟩
      · have hn' : (n == 0) = false := by simpa using hn
        obtain rfl : q = false := by rw [hz1.out, hn']; rfl
        clear hz1 hn
        go_enter Try.func50, Try.ntmps50
        go_wp2_with fail
        refine (hN.out _).mono ?_
        rintro e w' ⟨rfl, hbn⟩
        have HBN := Lib.hid (HB0.out.trans (hbn.mono (by simp)))
        have g2 := (hbn.cell (p := ⟨w.heap.size, 2, none⟩) (by simp)).trans (by simp; rfl)
        have g3 := (hbn.cell (p := ⟨w.heap.size, 3, none⟩) (by simp)).trans (by simp; rfl)
        clear hbn
        go_wp2_with fail
        go_ret
        exact ⟨rfl, HBN.out⟩
  have h1' : (k == 1) = false := by simpa using h1
  by_cases h2 : k = 2
  · subst h2
    have hz1 : Hid (q = (s.toList.isEmpty && m == 0)) := Lib.hid (by rw [hz.out, if_neg (by decide), if_pos rfl])
    clear hz hc hC hN h1 h1'
    by_cases he : s.toList = []
    · have hz2 : Hid (q = ((m : Int) == 0)) := Lib.hid (by rw [hz1.out, he, nat_beq0]; simp)
      clear hz1
      go_enter Try.func50, Try.ntmps50
      go_wp2_with fail
      go_ret
      exact ⟨by rw [hz2.out]; rfl, HB0.out⟩
    · have he' : (s.toList == []) = false := by simpa using he
      obtain rfl : q = false := by rw [hz1.out]; cases h : s.toList with
        | nil => exact absurd h he
        | cons a l => rfl
      clear hz1 he
      go_enter Try.func50, Try.ntmps50
      go_wp2_with fail
      go_ret
      exact ⟨rfl, HB0.out⟩
  have h2' : (k == 2) = false := by simpa using h2
  by_cases h3 : k = 3
  · subst h3
    have hz1 : Hid (q = (n == 0 && m == 0)) := Lib.hid (by rw [hz.out, if_neg (by decide), if_neg (by decide), if_pos rfl])
    clear hz hc hC hN h1 h1' h2 h2'
    by_cases hn : n = 0
    · subst hn
      have hz2 : Hid (q = ((m : Int) == 0)) := Lib.hid (by rw [hz1.out, nat_beq0]; simp)
      clear hz1
      go_enter Try.func50, Try.ntmps50
      go_wp2_with fail
      go_ret
      exact ⟨by rw [hz2.out]; rfl, HB0.out⟩
    · have hn' : (n == 0) = false := by simpa using hn
      obtain rfl : q = false := by rw [hz1.out, hn']; rfl
      clear hz1 hn
      go_enter Try.func50, Try.ntmps50
      go_wp2_with fail
      go_ret
      exact ⟨rfl, HB0.out⟩
  have h3' : (k == 3) = false := by simpa using h3
  have h4' : (k == 4) = false := by simpa using h4
  obtain rfl : q = false := by rw [hz.out, if_neg h1, if_neg h2, if_neg h3, if_neg h4]
  clear hz hN
  go_enter Try.func50, Try.ntmps50
  go_wp2_with fail
  go_ret
  exact ⟨rfl, HB0.out⟩
theorem right_any : ∀ e, RightExp e := E.ind fun k s n l ih => by
  by_cases h : k = 4
  · subst h; exact right_apply s n l ih
  · exact right_leaf k s n l h
end Go.Proofs.Ytldleckgkgeclaa
