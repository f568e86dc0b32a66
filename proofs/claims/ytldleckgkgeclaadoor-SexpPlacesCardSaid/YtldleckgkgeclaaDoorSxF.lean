/-
  Package sexp's reader: a tree is put among the kids of the last that is open.
-/
import Derived.Test.YtldleckgkgeclaaDoorSxD
import Derived.Test.YtldleckgkgeclaaDoorSxM
import Derived.Test.YtldleckgkgeclaaDoorLast
import Derived.Test.YtldleckgkgeclaaDoorSxS
set_option linter.unusedVariables false
set_option linter.unusedSimpArgs false
namespace Go.Proofs.YtldleckgkgeclaaDoor
open Go.RowKit
set_option linter.unusedSimpArgs false in
set_option maxRecDepth 100000 in
set_option maxHeartbeats 8000000 in
theorem add_kid (g gO m capO : Nat) (vd : Value) (s : ByteArray) (cur : Array Value) (A : Option Addr) (n c base : Nat) (qs : List TP) (k xn a : Int) (x : ByteArray) (l : List T) (A0 : Option Addr) (n0 c0 : Nat) (w : World)
    (hg : w.heap[g]? = some (.cells #[.string s, .slice (some ⟨gO, 0, none⟩) (m + 1) capO, vd] 52 (0, 0)))
    (hO : w.heap[gO]? = some (.cells cur 24 (0, 0))) (hcur : cur[m * 5 + 3]? = some (.slice A n c)) (hm : m ≤ 12) (hn : n ≤ 600) (hbase : base ≤ w.heap.size) (hn0 : n0 = l.length)
    (hK : w.ownsRow base 24 5 (.slice A n c) n (flatT qs)) (hAg : ∀ ad, A = some ad → ad.block ≠ g ∧ ad.block ≠ gO) :
    Calls Tryd.prog 20 #[.pointer (some ⟨g, 0, none⟩), .agg #[.int .i64 k, .string x, .int .i64 xn, .slice A0 n0 c0, .int .i64 a]] w fun e w' => e = .returned (.tuple #[]) ∧ AddEff w w' base gO (m * 5 + 3) cur A n qs ((.mk k x xn l a : T), A0, c0) := by
  have g1 : w.cell? ⟨g, 1, none⟩ = some (.slice (some ⟨gO, 0, none⟩) (m + 1) capO) := by simp [World.cell?, hg]
  have hgl : g < w.heap.size := (Array.getElem?_eq_some_iff.1 hg).1
  have c3 : w.cell? ⟨gO, m * 5 + 3, none⟩ = some (.slice A n c) := by simp [World.cell?, hO, hcur]
  have hgO : gO < w.heap.size := (Array.getElem?_eq_some_iff.1 hO).1
  have e1 : ((m + 1 : Nat) : Int) = (m : Int) + 1 := by omega
  obtain ⟨w1, ew1⟩ : ∃ w1, w1 = w.alloc (.cells #[.int .i64 k, .string x, .int .i64 xn, .slice A0 n0 c0, .int .i64 a] 24) := ⟨_, rfl⟩
  have hb1 : Below w.heap.size w w1 := by rw [ew1]; exact (Below.refl _ _).alloc (Nat.le_refl _) _
  have hs1 : w1.heap.size = w.heap.size + 1 := by rw [ew1]; simp
  have hx1 : w1.heap[w.heap.size]? = some (.cells #[.int .i64 k, .string x, .int .i64 xn, .slice A0 n0 c0, .int .i64 a] 24 (0, 0)) := by rw [ew1]; exact heap_alloc_new w _
  have HG := Lib.hid hg
  have HO := Lib.hid hO
  have HW1 := Lib.hid ew1
  have HX1 := Lib.hid hx1
  have HB1 := Lib.hid hb1
  have HK := Lib.hid hK
  have HC := Lib.hid hcur
  obtain ⟨i0, hi, hz0, hz1, hz2⟩ := info_parts tree_info
  have HN0 := Lib.hid hn0
  clear hg hO ew1 hx1 hb1 hK hcur hn0
  go_enter Tryd.func20, Tryd.ntmps20
  go_upto_region 3 with (fail)
  rw [← HW1.out]
  go_cut [12, 13] (fun _ u wx => ∃ b, u = .bool b ∧ Below w1.heap.size w1 wx)
  case first =>
    go_region
    all_goals
      go_wp2_with fail
      go_meet
      exact ⟨_, rfl, ((Below.refl w1.heap.size w1).alloc (Nat.le_refl _) _).drew⟩
  case rest =>
  obtain ⟨b, rfl, hbq⟩ := hcut
  obtain ⟨wq, rfl⟩ : ∃ wq, wq = wc := ⟨_, rfl⟩
  have hsq := hbq.size
  have hgq : wq.heap[g]? = w.heap[g]? := (hbq.block g (by omega)).trans (HB1.out.block g hgl)
  have hOq0 : wq.heap[gO]? = w.heap[gO]? := (hbq.block gO (by omega)).trans (HB1.out.block gO hgO)
  have hxq : wq.heap[w.heap.size]? = some (.cells #[.int .i64 k, .string x, .int .i64 xn, .slice A0 n0 c0, .int .i64 a] 24 (0, 0)) := (hbq.block _ (by omega)).trans HX1.out
  have HBQ : Hid (Below w.heap.size w wq) := Lib.hid (HB1.out.trans (hbq.mono (by omega)))
  have hKq := Lib.hid (own_below HK.out HBQ.out)
  have hKl : Hid (∀ ad, A = some ad → ad.block < w.heap.size) := Lib.hid (fun ad e => (HK.out.lt ad.block (by rw [e]; rfl)).2)
  have hcO0 : Hid (wq.cell? ⟨gO, m * 5 + 3, none⟩ = some (.slice A n c)) := Lib.hid ((World.cell?_of_block hOq0).trans c3)
  have hfO : Hid (wq.frozen? ⟨gO, m * 5 + 3, none⟩ = false) := Lib.hid (by simp [World.frozen?, hOq0, HO.out])
  obtain ⟨⟨x0, x1, x2, x3, x4⟩, _, _, _, _, _⟩ := cell5 hxq
  have hgq1 : wq.cell? ⟨g, 1, none⟩ = some (.slice (some ⟨gO, 0, none⟩) (m + 1) capO) := (World.cell?_of_block hgq).trans g1
  have hSB : Hid (∀ w' : World, w'.heap[g]? = wq.heap[g]? → w'.heap[gO]? = wq.heap[gO]? → w'.heap[w.heap.size]? = wq.heap[w.heap.size]? → w'.cell? ⟨g, 1, none⟩ = some (.slice (some ⟨gO, 0, none⟩) (m + 1) capO) ∧ w'.cell? ⟨gO, m * 5 + 3, none⟩ = some (.slice A n c) ∧ w'.cell? ⟨w.heap.size, 0, none⟩ = some (.int .i64 k) ∧ w'.cell? ⟨w.heap.size, 1, none⟩ = some (.string x) ∧ w'.cell? ⟨w.heap.size, 2, none⟩ = some (.int .i64 xn) ∧ w'.cell? ⟨w.heap.size, 3, none⟩ = some (.slice A0 n0 c0) ∧ w'.cell? ⟨w.heap.size, 4, none⟩ = some (.int .i64 a)) := Lib.hid (fun w' h1 h2 h3 => ⟨(World.cell?_of_block h1).trans hgq1, (World.cell?_of_block h2).trans hcO0.out, (World.cell?_of_block h3).trans x0, (World.cell?_of_block h3).trans x1, (World.cell?_of_block h3).trans x2, (World.cell?_of_block h3).trans x3, (World.cell?_of_block h3).trans x4⟩)
  have em : ((m : Int) + 1 - 1) = (m : Int) := by omega
  have ew : IntKind.i64.wrap (m : Int) = (m : Int) := by unfold IntKind.wrap; simp [IntKind.bits, IntKind.signed]; omega
  have el : (m : Int) < (m : Int) + 1 := by omega
  have hOq := Lib.hid hOq0
  clear hbq hgq hOq0 hxq x0 x1 x2 x3 x4 hgq1
  cases b
  · go_upto_region 6 with (fail)
    refine LastKit.wp_region_last (fun w' => w'.cell? ⟨g, 1, none⟩ = some (.slice (some ⟨gO, 0, none⟩) (m + 1) capO) ∧ w'.cell? ⟨gO, m * 5 + 3, none⟩ = some (.slice A n c) ∧ w'.cell? ⟨w.heap.size, 0, none⟩ = some (.int .i64 k) ∧ w'.cell? ⟨w.heap.size, 1, none⟩ = some (.string x) ∧ w'.cell? ⟨w.heap.size, 2, none⟩ = some (.int .i64 xn) ∧ w'.cell? ⟨w.heap.size, 3, none⟩ = some (.slice A0 n0 c0) ∧ w'.cell? ⟨w.heap.size, 4, none⟩ = some (.int .i64 a)) 20 (by kernel_rfl) (hSB.out _ rfl rfl rfl) (fun hHeld => ?_)
    refine LastKit.wpAnyK_take (i := 0) (C := [0, 20]) (v := ?v6_1) rfl (by kernel_rfl) (by kernel_rfl) (by kernel_rfl) (by kernel_rfl) (fun _ _ _ h => h) (Or.inl ⟨by rfl, ?hy6_1⟩) (by assumption) ?_
    case hy6_1 => (intro w1 hSw; (try dsimp only at hSw); go_simp; try with_reducible rfl)
    simp only [List.getElem_toArray, List.getElem_cons_zero, Act.put, List.setIfInBounds_toArray, List.set_cons_zero, List.set_cons_succ]
    refine LastKit.wpAnyK_take (i := 1) (C := [1, 20]) (v := ?v6_2) rfl (by kernel_rfl) (by kernel_rfl) (by kernel_rfl) (by kernel_rfl) (fun _ _ _ h => h) (Or.inl ⟨by rfl, ?hy6_2⟩) (by assumption) ?_
    case hy6_2 => (intro w1 hSw; (try dsimp only at hSw); go_simp; try with_reducible rfl)
    simp only [List.getElem_toArray, List.getElem_cons_succ, List.getElem_cons_zero, Act.put, List.setIfInBounds_toArray, List.set_cons_zero, List.set_cons_succ]
    refine LastKit.wpAnyK_take (i := 2) (C := [2, 20]) (v := ?v6_3) rfl (by kernel_rfl) (by kernel_rfl) (by kernel_rfl) (by kernel_rfl) (fun _ _ _ h => h) (Or.inl ⟨by rfl, ?hy6_3⟩) (by assumption) ?_
    case hy6_3 => (intro w1 hSw; (try dsimp only at hSw); go_simp; try with_reducible rfl)
    simp only [List.getElem_toArray, List.getElem_cons_succ, List.getElem_cons_zero, Act.put, List.setIfInBounds_toArray, List.set_cons_zero, List.set_cons_succ]
    refine LastKit.wpAnyK_take (i := 3) (C := [3, 20]) (v := ?v6_4) rfl (by kernel_rfl) (by kernel_rfl) (by kernel_rfl) (by kernel_rfl) (fun _ _ _ h => h) (Or.inl ⟨by rfl, ?hy6_4⟩) (by assumption) ?_
    case hy6_4 => (intro w1 hSw; (try dsimp only at hSw); go_simp; try with_reducible rfl)
    simp only [List.getElem_toArray, List.getElem_cons_succ, List.getElem_cons_zero, Act.put, List.setIfInBounds_toArray, List.set_cons_zero, List.set_cons_succ]
    refine LastKit.wpAnyK_take (i := 4) (C := [4, 20]) (v := ?v6_5) rfl (by kernel_rfl) (by kernel_rfl) (by kernel_rfl) (by kernel_rfl) (fun _ _ _ h => h) (Or.inl ⟨by rfl, ?hy6_5⟩) (by assumption) ?_
    case hy6_5 => (intro w1 hSw; (try dsimp only at hSw); go_simp; try with_reducible rfl)
    simp only [List.getElem_toArray, List.getElem_cons_succ, List.getElem_cons_zero, Act.put, List.setIfInBounds_toArray, List.set_cons_zero, List.set_cons_succ]
    refine LastKit.wpAnyK_take (i := 5) (C := [5, 20]) (v := ?v6_6) rfl (by kernel_rfl) (by kernel_rfl) (by kernel_rfl) (by kernel_rfl) (fun _ _ _ h => h) (Or.inl ⟨by rfl, ?hy6_6⟩) (by assumption) ?_
    case hy6_6 => (intro w1 hSw; (try dsimp only at hSw); go_simp; try with_reducible rfl)
    simp only [List.getElem_toArray, List.getElem_cons_succ, List.getElem_cons_zero, Act.put, List.setIfInBounds_toArray, List.set_cons_zero, List.set_cons_succ]
    refine LastKit.wpAnyK_take (i := 6) (C := [6, 20]) (v := ?v6_7) rfl (by kernel_rfl) (by kernel_rfl) (by kernel_rfl) (by kernel_rfl) (fun _ _ _ h => h) (Or.inl ⟨by rfl, ?hy6_7⟩) (by assumption) ?_
    case hy6_7 => (intro w1 hSw; (try dsimp only at hSw); go_simp; try with_reducible rfl)
    simp only [List.getElem_toArray, List.getElem_cons_succ, List.getElem_cons_zero, Act.put, List.setIfInBounds_toArray, List.set_cons_zero, List.set_cons_succ]
    refine LastKit.wpAnyK_take (i := 7) (C := [7, 20]) (v := ?v6_8) rfl (by kernel_rfl) (by kernel_rfl) (by kernel_rfl) (by kernel_rfl) (fun _ _ _ h => h) (Or.inl ⟨by rfl, ?hy6_8⟩) (by assumption) ?_
    case hy6_8 => (intro w1 hSw; (try dsimp only at hSw); go_simp; try with_reducible rfl)
    simp only [List.getElem_toArray, List.getElem_cons_succ, List.getElem_cons_zero, Act.put, List.setIfInBounds_toArray, List.set_cons_zero, List.set_cons_succ]
    refine LastKit.wpAnyK_take (i := 8) (C := [8, 20]) (v := ?v6_9) rfl (by kernel_rfl) (by kernel_rfl) (by kernel_rfl) (by kernel_rfl) (fun _ _ _ h => h) (Or.inl ⟨by rfl, ?hy6_9⟩) (by assumption) ?_
    case hy6_9 => (intro w1 hSw; (try dsimp only at hSw); go_simp; try with_reducible rfl)
    simp only [List.getElem_toArray, List.getElem_cons_succ, List.getElem_cons_zero, Act.put, List.setIfInBounds_toArray, List.set_cons_zero, List.set_cons_succ]
    refine LastKit.wpAnyK_take (i := 9) (C := [9, 20]) (v := ?v6_10) rfl (by kernel_rfl) (by kernel_rfl) (by kernel_rfl) (by kernel_rfl) (fun _ _ _ h => h) (Or.inl ⟨by rfl, ?hy6_10⟩) (by assumption) ?_
    case hy6_10 => (intro w1 hSw; (try dsimp only at hSw); go_simp; try with_reducible rfl)
    simp only [List.getElem_toArray, List.getElem_cons_succ, List.getElem_cons_zero, Act.put, List.setIfInBounds_toArray, List.set_cons_zero, List.set_cons_succ]
    refine LastKit.wpAnyK_take (i := 10) (C := [10, 20]) (v := ?v6_11) rfl (by kernel_rfl) (by kernel_rfl) (by kernel_rfl) (by kernel_rfl) (fun _ _ _ h => h) (Or.inl ⟨by rfl, ?hy6_11⟩) (by assumption) ?_
    case hy6_11 => (intro w1 hSw; (try dsimp only at hSw); go_simp; try with_reducible rfl)
    simp only [List.getElem_toArray, List.getElem_cons_succ, List.getElem_cons_zero, Act.put, List.setIfInBounds_toArray, List.set_cons_zero, List.set_cons_succ]
    refine LastKit.wpAnyK_take (i := 11) (C := [11, 20]) (v := ?v6_12) rfl (by kernel_rfl) (by kernel_rfl) (by kernel_rfl) (by kernel_rfl) (fun _ _ _ h => h) (Or.inl ⟨by rfl, ?hy6_12⟩) (by assumption) ?_
    case hy6_12 => (intro w1 hSw; (try dsimp only at hSw); go_simp; try with_reducible rfl)
    simp only [List.getElem_toArray, List.getElem_cons_succ, List.getElem_cons_zero, Act.put, List.setIfInBounds_toArray, List.set_cons_zero, List.set_cons_succ]
    refine LastKit.wpAnyK_take (i := 12) (C := [12, 20]) (v := ?v6_13) rfl (by kernel_rfl) (by kernel_rfl) (by kernel_rfl) (by kernel_rfl) (fun _ _ _ h => h) (Or.inl ⟨by rfl, ?hy6_13⟩) (by assumption) ?_
    case hy6_13 => (intro w1 hSw; (try dsimp only at hSw); go_simp; try with_reducible rfl)
    simp only [List.getElem_toArray, List.getElem_cons_succ, List.getElem_cons_zero, Act.put, List.setIfInBounds_toArray, List.set_cons_zero, List.set_cons_succ]
    refine LastKit.wpAnyK_take (i := 13) (C := [13, 20]) (v := ?v6_14) rfl (by kernel_rfl) (by kernel_rfl) (by kernel_rfl) (by kernel_rfl) (fun _ _ _ h => h) (Or.inl ⟨by rfl, ?hy6_14⟩) (by assumption) ?_
    case hy6_14 => (intro w1 hSw; (try dsimp only at hSw); go_simp; try with_reducible rfl)
    simp only [List.getElem_toArray, List.getElem_cons_succ, List.getElem_cons_zero, Act.put, List.setIfInBounds_toArray, List.set_cons_zero, List.set_cons_succ]
    refine LastKit.wpAnyK_take (i := 14) (C := [14, 20]) (v := ?v6_15) rfl (by kernel_rfl) (by kernel_rfl) (by kernel_rfl) (by kernel_rfl) (fun _ _ _ h => h) (Or.inl ⟨by rfl, ?hy6_15⟩) (by assumption) ?_
    case hy6_15 => (intro w1 hSw; (try dsimp only at hSw); go_simp; try with_reducible rfl)
    simp only [List.getElem_toArray, List.getElem_cons_succ, List.getElem_cons_zero, Act.put, List.setIfInBounds_toArray, List.set_cons_zero, List.set_cons_succ]
    refine LastKit.wpAnyK_take (i := 15) (C := [15, 20]) (v := ?v6_16) rfl (by kernel_rfl) (by kernel_rfl) (by kernel_rfl) (by kernel_rfl) (fun _ _ _ h => h) (Or.inl ⟨by rfl, ?hy6_16⟩) (by assumption) ?_
    case hy6_16 => (intro w1 hSw; (try dsimp only at hSw); go_simp; try with_reducible rfl)
    simp only [List.getElem_toArray, List.getElem_cons_succ, List.getElem_cons_zero, Act.put, List.setIfInBounds_toArray, List.set_cons_zero, List.set_cons_succ]
    refine LastKit.wpAnyK_ready (rs := [16]) (by kernel_rfl) (by simp) ?_
    refine (LastKit.AllReadyK.cons rfl (fun K hK => ?_) LastKit.AllReadyK.nil)
    refine step_build5 _ rfl 51 rfl k xn a x A0 n0 c0 rfl ?_
    refine hK.out _ _ (hSB.out _ (Below.heap_alloc _ _ _ (by simp; omega)) (Below.heap_alloc _ _ _ (by simp; omega)) (Below.heap_alloc _ _ _ (by simp; omega))) (fun hHeld => ?_)
    clear hK K
    simp only [List.getElem_toArray, List.getElem_cons_succ, List.getElem_cons_zero, Act.put, List.setIfInBounds_toArray, List.set_cons_zero, List.set_cons_succ, World.size_alloc, World.size_drew]
    refine LastKit.wpAnyK_ready (rs := [17]) (by kernel_rfl) (by simp) ?_
    refine (LastKit.AllReadyK.cons rfl (fun K hK => ?_) LastKit.AllReadyK.nil)
    refine step_append_lies _ rfl _ _ 22 rfl base 24 i0 _ 5 64 Tryd.underlying22 hi hz0 hz1 hz2 rfl (by decide) (.slice A n c) n (flatT qs) rfl (own_below hKq.out ((Below.refl wq.heap.size wq).drew.trans ((Below.refl wq.heap.size wq.drew).alloc (Nat.le_refl _) (.cells #[.int .i64 k, .string x, .int .i64 xn, .slice A0 n0 c0, .int .i64 a] 24)))) ⟨wq.heap.size, 0, none⟩ 1 1 [.int .i64 k, .string x, .int .i64 xn, .slice A0 n0 c0, .int .i64 a] rfl rfl (World.news_of_block (heap_alloc_new wq.drew (.cells #[.int .i64 k, .string x, .int .i64 xn, .slice A0 n0 c0, .int .i64 a] 24))) ?a0 (by decide) ?a1 ?a2 ?a3 _ rfl ?_
    case a0 => (intro u hu; simp only [List.mem_cons, List.not_mem_nil, or_false] at hu; rcases hu with rfl | rfl | rfl | rfl | rfl <;> rfl)
    case a1 => (unfold maxLen; omega)
    case a2 => omega
    case a3 => (simp; omega)
    intro g5 cap5 w5 hown5 hgrow5 hat5 hlt5
    have hkeep : ∀ b, b < wq.heap.size → (∀ ad, A = some ad → ad.block ≠ b) → w5.heap[b]? = wq.heap[b]? := fun b hb hA => (hgrow5.block b (by simp; omega) (fun e => by cases A with | none => simp [Value.ownBlock] at e | some ad => exact hA ad rfl (by simpa [Value.ownBlock] using e.symm))).trans (Below.heap_alloc wq.drew _ b hb)
    have hk1 := hkeep g (by omega) (fun ad e => (hAg ad e).1)
    have hk2 := hkeep gO (by omega) (fun ad e => (hAg ad e).2)
    have hk3 := hkeep w.heap.size (by omega) (fun ad e e2 => by have := (hKl.out ad e); omega)
    have HS5 := Lib.hid (And.intro hk1 (And.intro hk2 hk3))
    have HA5 : Hid (Aside (fun b => ∃ ad, A = some ad ∧ ad.block = b) w w5) := Lib.hid (((Aside.of_below HBQ.out).drew.alloc _).grown hgrow5 (fun b e _ => by cases A with | none => simp [Value.ownBlock] at e | some ad => exact ⟨ad, rfl, by simpa [Value.ownBlock] using e⟩))
    have HG5 : Hid ((∃ ad, A = some ad ∧ ad.block = g5) ∨ w.heap.size ≤ g5) := Lib.hid (hat5.elim (fun e => Or.inl (by cases A with | none => simp [Value.ownBlock] at e | some ad => exact ⟨ad, rfl, by simpa [Value.ownBlock] using e⟩)) (fun e => Or.inr (by simp at e; omega)))
    have HO5 := Lib.hid hown5
    have HL5 := Lib.hid hlt5
    have hgO5 : Hid (w5.heap[gO]? = some (.cells cur 24 (0, 0))) := Lib.hid (hk2.trans (hOq.out.trans HO.out))
    have hne5 : g5 ≠ gO := HG5.out.elim (fun h => h.elim fun ad e2 => by have := (hAg ad e2.1).2; omega) (fun h => by omega)
    have hfz : w5.frozen? ⟨gO, m * 5 + 3, none⟩ = false := (World.frozen?_of_block hk2).trans hfO.out
    have hcO : w5.cell? ⟨gO, m * 5 + 3, none⟩ = some (.slice A n c) := (World.cell?_of_block hk2).trans hcO0.out
    clear hown5 hgrow5 hat5 hlt5 hkeep
    refine hK.out _ _ (hSB.out _ hk1 hk2 hk3) (fun hHeld => ?_)
    clear hK K hk1 hk2 hk3
    simp only [List.getElem_toArray, List.getElem_cons_succ, List.getElem_cons_zero, Act.put, List.setIfInBounds_toArray, List.set_cons_zero, List.set_cons_succ]
    refine LastKit.wpAnyK_take (i := 18) (C := [18, 19, 20]) (v := ?v6_17) rfl (by kernel_rfl) (by kernel_rfl) (by kernel_rfl) (by kernel_rfl) (fun _ _ _ h => h) (Or.inl ⟨by rfl, ?hy6_17⟩) (by assumption) ?_
    case hy6_17 => (intro w1 hSw; (try dsimp only at hSw); go_simp; try with_reducible rfl)
    simp only [List.getElem_toArray, List.getElem_cons_succ, List.getElem_cons_zero, Act.put, List.setIfInBounds_toArray, List.set_cons_zero, List.set_cons_succ]
    refine LastKit.wpAnyK_take (i := 19) (C := [19, 20]) (v := ?v6_18) rfl (by kernel_rfl) (by kernel_rfl) (by kernel_rfl) (by kernel_rfl) (fun _ _ _ h => h) (Or.inl ⟨by rfl, ?hy6_18⟩) (by assumption) ?_
    case hy6_18 => (intro w1 hSw; (try dsimp only at hSw); go_simp; try with_reducible rfl)
    simp only [List.getElem_toArray, List.getElem_cons_succ, List.getElem_cons_zero, Act.put, List.setIfInBounds_toArray, List.set_cons_zero, List.set_cons_succ]
    refine LastKit.wpAnyK_ready (rs := [20]) (by kernel_rfl) (by simp) ?_
    refine LastKit.AllReadyK.last rfl (fun K hK => ?_)
    simp only [List.getElem_toArray, List.getElem_cons_succ, List.getElem_cons_zero]
    go_simp
    refine hK.out _ _ ?_
    clear hK K
    refine LastKit.wpAnyK_done (by kernel_rfl) ?_ _
    have hFin := Lib.hid (addEff_false (x := ((.mk k x xn l a : T), A0, c0)) (o := m * 5 + 3) HA5.out HG5.out (by rw [HN0.out] at HO5; exact HO5.out) hgO5.out hne5)
    clear HA5 HG5 HO5 HL5 hgO5 hfz hcO hSB HS5
    go_wp2_with fail
    first
      | refine bodyPost_end (results_none rfl _ _ _) rfl ?_
      | refine bodyPost_ret (results_none rfl _ _ _) rfl ?_
    exact ⟨rfl, hFin.out⟩
  · go_upto_region 4 with (fail)
    refine LastKit.wp_region_last (fun w' => w'.cell? ⟨g, 1, none⟩ = some (.slice (some ⟨gO, 0, none⟩) (m + 1) capO) ∧ w'.cell? ⟨gO, m * 5 + 3, none⟩ = some (.slice A n c) ∧ w'.cell? ⟨w.heap.size, 0, none⟩ = some (.int .i64 k) ∧ w'.cell? ⟨w.heap.size, 1, none⟩ = some (.string x) ∧ w'.cell? ⟨w.heap.size, 2, none⟩ = some (.int .i64 xn) ∧ w'.cell? ⟨w.heap.size, 3, none⟩ = some (.slice A0 n0 c0) ∧ w'.cell? ⟨w.heap.size, 4, none⟩ = some (.int .i64 a)) 21 (by kernel_rfl) (hSB.out _ rfl rfl rfl) (fun hHeld => ?_)
    refine LastKit.wpAnyK_take (i := 0) (C := [0, 21]) (v := ?v4_1) rfl (by kernel_rfl) (by kernel_rfl) (by kernel_rfl) (by kernel_rfl) (fun _ _ _ h => h) (Or.inl ⟨by rfl, ?hy4_1⟩) (by assumption) ?_
    case hy4_1 => (intro w1 hSw; (try dsimp only at hSw); go_simp; try with_reducible rfl)
    simp only [List.getElem_toArray, List.getElem_cons_zero, Act.put, List.setIfInBounds_toArray, List.set_cons_zero, List.set_cons_succ]
    refine LastKit.wpAnyK_take (i := 1) (C := [1, 21]) (v := ?v4_2) rfl (by kernel_rfl) (by kernel_rfl) (by kernel_rfl) (by kernel_rfl) (fun _ _ _ h => h) (Or.inl ⟨by rfl, ?hy4_2⟩) (by assumption) ?_
    case hy4_2 => (intro w1 hSw; (try dsimp only at hSw); go_simp; try with_reducible rfl)
    simp only [List.getElem_toArray, List.getElem_cons_succ, List.getElem_cons_zero, Act.put, List.setIfInBounds_toArray, List.set_cons_zero, List.set_cons_succ]
    refine LastKit.wpAnyK_take (i := 2) (C := [2, 21]) (v := ?v4_3) rfl (by kernel_rfl) (by kernel_rfl) (by kernel_rfl) (by kernel_rfl) (fun _ _ _ h => h) (Or.inl ⟨by rfl, ?hy4_3⟩) (by assumption) ?_
    case hy4_3 => (intro w1 hSw; (try dsimp only at hSw); go_simp; try with_reducible rfl)
    simp only [List.getElem_toArray, List.getElem_cons_succ, List.getElem_cons_zero, Act.put, List.setIfInBounds_toArray, List.set_cons_zero, List.set_cons_succ]
    refine LastKit.wpAnyK_take (i := 3) (C := [3, 21]) (v := ?v4_4) rfl (by kernel_rfl) (by kernel_rfl) (by kernel_rfl) (by kernel_rfl) (fun _ _ _ h => h) (Or.inl ⟨by rfl, ?hy4_4⟩) (by assumption) ?_
    case hy4_4 => (intro w1 hSw; (try dsimp only at hSw); go_simp; try with_reducible rfl)
    simp only [List.getElem_toArray, List.getElem_cons_succ, List.getElem_cons_zero, Act.put, List.setIfInBounds_toArray, List.set_cons_zero, List.set_cons_succ]
    refine LastKit.wpAnyK_take (i := 4) (C := [4, 21]) (v := ?v4_5) rfl (by kernel_rfl) (by kernel_rfl) (by kernel_rfl) (by kernel_rfl) (fun _ _ _ h => h) (Or.inl ⟨by rfl, ?hy4_5⟩) (by assumption) ?_
    case hy4_5 => (intro w1 hSw; (try dsimp only at hSw); go_simp; try with_reducible rfl)
    simp only [List.getElem_toArray, List.getElem_cons_succ, List.getElem_cons_zero, Act.put, List.setIfInBounds_toArray, List.set_cons_zero, List.set_cons_succ]
    refine LastKit.wpAnyK_take (i := 5) (C := [5, 21]) (v := ?v4_6) rfl (by kernel_rfl) (by kernel_rfl) (by kernel_rfl) (by kernel_rfl) (fun _ _ _ h => h) (Or.inl ⟨by rfl, ?hy4_6⟩) (by assumption) ?_
    case hy4_6 => (intro w1 hSw; (try dsimp only at hSw); go_simp; try with_reducible rfl)
    simp only [List.getElem_toArray, List.getElem_cons_succ, List.getElem_cons_zero, Act.put, List.setIfInBounds_toArray, List.set_cons_zero, List.set_cons_succ]
    refine LastKit.wpAnyK_take (i := 6) (C := [6, 21]) (v := ?v4_7) rfl (by kernel_rfl) (by kernel_rfl) (by kernel_rfl) (by kernel_rfl) (fun _ _ _ h => h) (Or.inl ⟨by rfl, ?hy4_7⟩) (by assumption) ?_
    case hy4_7 => (intro w1 hSw; (try dsimp only at hSw); go_simp; try with_reducible rfl)
    simp only [List.getElem_toArray, List.getElem_cons_succ, List.getElem_cons_zero, Act.put, List.setIfInBounds_toArray, List.set_cons_zero, List.set_cons_succ]
    refine LastKit.wpAnyK_take (i := 7) (C := [7, 21]) (v := ?v4_8) rfl (by kernel_rfl) (by kernel_rfl) (by kernel_rfl) (by kernel_rfl) (fun _ _ _ h => h) (Or.inl ⟨by rfl, ?hy4_8⟩) (by assumption) ?_
    case hy4_8 => (intro w1 hSw; (try dsimp only at hSw); go_simp; try with_reducible rfl)
    simp only [List.getElem_toArray, List.getElem_cons_succ, List.getElem_cons_zero, Act.put, List.setIfInBounds_toArray, List.set_cons_zero, List.set_cons_succ]
    refine LastKit.wpAnyK_take (i := 8) (C := [8, 21]) (v := ?v4_9) rfl (by kernel_rfl) (by kernel_rfl) (by kernel_rfl) (by kernel_rfl) (fun _ _ _ h => h) (Or.inl ⟨by rfl, ?hy4_9⟩) (by assumption) ?_
    case hy4_9 => (intro w1 hSw; (try dsimp only at hSw); go_simp; try with_reducible rfl)
    simp only [List.getElem_toArray, List.getElem_cons_succ, List.getElem_cons_zero, Act.put, List.setIfInBounds_toArray, List.set_cons_zero, List.set_cons_succ]
    refine LastKit.wpAnyK_take (i := 9) (C := [9, 21]) (v := ?v4_10) rfl (by kernel_rfl) (by kernel_rfl) (by kernel_rfl) (by kernel_rfl) (fun _ _ _ h => h) (Or.inl ⟨by rfl, ?hy4_10⟩) (by assumption) ?_
    case hy4_10 => (intro w1 hSw; (try dsimp only at hSw); go_simp; try with_reducible rfl)
    simp only [List.getElem_toArray, List.getElem_cons_succ, List.getElem_cons_zero, Act.put, List.setIfInBounds_toArray, List.set_cons_zero, List.set_cons_succ]
    refine LastKit.wpAnyK_take (i := 10) (C := [10, 21]) (v := ?v4_11) rfl (by kernel_rfl) (by kernel_rfl) (by kernel_rfl) (by kernel_rfl) (fun _ _ _ h => h) (Or.inl ⟨by rfl, ?hy4_11⟩) (by assumption) ?_
    case hy4_11 => (intro w1 hSw; (try dsimp only at hSw); go_simp; try with_reducible rfl)
    simp only [List.getElem_toArray, List.getElem_cons_succ, List.getElem_cons_zero, Act.put, List.setIfInBounds_toArray, List.set_cons_zero, List.set_cons_succ]
    refine LastKit.wpAnyK_take (i := 11) (C := [11, 21]) (v := ?v4_12) rfl (by kernel_rfl) (by kernel_rfl) (by kernel_rfl) (by kernel_rfl) (fun _ _ _ h => h) (Or.inl ⟨by rfl, ?hy4_12⟩) (by assumption) ?_
    case hy4_12 => (intro w1 hSw; (try dsimp only at hSw); go_simp; try with_reducible rfl)
    simp only [List.getElem_toArray, List.getElem_cons_succ, List.getElem_cons_zero, Act.put, List.setIfInBounds_toArray, List.set_cons_zero, List.set_cons_succ]
    refine LastKit.wpAnyK_take (i := 12) (C := [12, 21]) (v := ?v4_13) rfl (by kernel_rfl) (by kernel_rfl) (by kernel_rfl) (by kernel_rfl) (fun _ _ _ h => h) (Or.inl ⟨by rfl, ?hy4_13⟩) (by assumption) ?_
    case hy4_13 => (intro w1 hSw; (try dsimp only at hSw); go_simp; try with_reducible rfl)
    simp only [List.getElem_toArray, List.getElem_cons_succ, List.getElem_cons_zero, Act.put, List.setIfInBounds_toArray, List.set_cons_zero, List.set_cons_succ]
    refine LastKit.wpAnyK_take (i := 13) (C := [13, 21]) (v := ?v4_14) rfl (by kernel_rfl) (by kernel_rfl) (by kernel_rfl) (by kernel_rfl) (fun _ _ _ h => h) (Or.inl ⟨by rfl, ?hy4_14⟩) (by assumption) ?_
    case hy4_14 => (intro w1 hSw; (try dsimp only at hSw); go_simp; try with_reducible rfl)
    simp only [List.getElem_toArray, List.getElem_cons_succ, List.getElem_cons_zero, Act.put, List.setIfInBounds_toArray, List.set_cons_zero, List.set_cons_succ]
    refine LastKit.wpAnyK_take (i := 14) (C := [14, 21]) (v := ?v4_15) rfl (by kernel_rfl) (by kernel_rfl) (by kernel_rfl) (by kernel_rfl) (fun _ _ _ h => h) (Or.inl ⟨by rfl, ?hy4_15⟩) (by assumption) ?_
    case hy4_15 => (intro w1 hSw; (try dsimp only at hSw); go_simp; try with_reducible rfl)
    simp only [List.getElem_toArray, List.getElem_cons_succ, List.getElem_cons_zero, Act.put, List.setIfInBounds_toArray, List.set_cons_zero, List.set_cons_succ]
    refine LastKit.wpAnyK_take (i := 15) (C := [15, 21]) (v := ?v4_16) rfl (by kernel_rfl) (by kernel_rfl) (by kernel_rfl) (by kernel_rfl) (fun _ _ _ h => h) (Or.inl ⟨by rfl, ?hy4_16⟩) (by assumption) ?_
    case hy4_16 => (intro w1 hSw; (try dsimp only at hSw); go_simp; try with_reducible rfl)
    simp only [List.getElem_toArray, List.getElem_cons_succ, List.getElem_cons_zero, Act.put, List.setIfInBounds_toArray, List.set_cons_zero, List.set_cons_succ]
    refine LastKit.wpAnyK_take (i := 16) (C := [16, 21]) (v := ?v4_17) rfl (by kernel_rfl) (by kernel_rfl) (by kernel_rfl) (by kernel_rfl) (fun _ _ _ h => h) (Or.inl ⟨by rfl, ?hy4_17⟩) (by assumption) ?_
    case hy4_17 => (intro w1 hSw; (try dsimp only at hSw); go_simp; try with_reducible rfl)
    simp only [List.getElem_toArray, List.getElem_cons_succ, List.getElem_cons_zero, Act.put, List.setIfInBounds_toArray, List.set_cons_zero, List.set_cons_succ]
    refine LastKit.wpAnyK_ready (rs := [17]) (by kernel_rfl) (by simp) ?_
    refine (LastKit.AllReadyK.cons rfl (fun K hK => ?_) LastKit.AllReadyK.nil)
    refine step_buildZ _ rfl rfl ?_
    refine hK.out _ _ (hSB.out _ (Below.heap_alloc _ _ _ (by simp; omega)) (Below.heap_alloc _ _ _ (by simp; omega)) (Below.heap_alloc _ _ _ (by simp; omega))) (fun hHeld => ?_)
    clear hK K
    simp only [List.getElem_toArray, List.getElem_cons_succ, List.getElem_cons_zero, Act.put, List.setIfInBounds_toArray, List.set_cons_zero, List.set_cons_succ, World.size_alloc, World.size_drew]
    refine LastKit.wpAnyK_ready (rs := [18]) (by kernel_rfl) (by simp) ?_
    refine (LastKit.AllReadyK.cons rfl (fun K hK => ?_) LastKit.AllReadyK.nil)
    refine step_append_lies _ rfl _ _ 22 rfl base 24 i0 _ 5 64 Tryd.underlying22 hi hz0 hz1 hz2 rfl (by decide) (.slice A n c) n (flatT qs) rfl (own_below hKq.out ((Below.refl wq.heap.size wq).drew.trans ((Below.refl wq.heap.size wq.drew).alloc (Nat.le_refl _) (.cells #[.int .i64 0, .string ⟨#[]⟩, .int .i64 0, .slice none 0 0, .int .i64 0] 24)))) ⟨wq.heap.size, 0, none⟩ 1 1 [.int .i64 0, .string ⟨#[]⟩, .int .i64 0, .slice none 0 0, .int .i64 0] rfl rfl (World.news_of_block (heap_alloc_new wq.drew (.cells #[.int .i64 0, .string ⟨#[]⟩, .int .i64 0, .slice none 0 0, .int .i64 0] 24))) ?a0 (by decide) ?a1 ?a2 ?a3 _ rfl ?_
    case a0 => (intro u hu; simp only [List.mem_cons, List.not_mem_nil, or_false] at hu; rcases hu with rfl | rfl | rfl | rfl | rfl <;> rfl)
    case a1 => (unfold maxLen; omega)
    case a2 => omega
    case a3 => (simp; omega)
    intro g5 cap5 w5 hown5 hgrow5 hat5 hlt5
    have hkeep : ∀ b, b < wq.heap.size → (∀ ad, A = some ad → ad.block ≠ b) → w5.heap[b]? = wq.heap[b]? := fun b hb hA => (hgrow5.block b (by simp; omega) (fun e => by cases A with | none => simp [Value.ownBlock] at e | some ad => exact hA ad rfl (by simpa [Value.ownBlock] using e.symm))).trans (Below.heap_alloc wq.drew _ b hb)
    have hk1 := hkeep g (by omega) (fun ad e => (hAg ad e).1)
    have hk2 := hkeep gO (by omega) (fun ad e => (hAg ad e).2)
    have hk3 := hkeep w.heap.size (by omega) (fun ad e e2 => by have := (hKl.out ad e); omega)
    have HS5 := Lib.hid (And.intro hk1 (And.intro hk2 hk3))
    have HA5 : Hid (Aside (fun b => ∃ ad, A = some ad ∧ ad.block = b) w w5) := Lib.hid (((Aside.of_below HBQ.out).drew.alloc _).grown hgrow5 (fun b e _ => by cases A with | none => simp [Value.ownBlock] at e | some ad => exact ⟨ad, rfl, by simpa [Value.ownBlock] using e⟩))
    have HG5 : Hid ((∃ ad, A = some ad ∧ ad.block = g5) ∨ w.heap.size ≤ g5) := Lib.hid (hat5.elim (fun e => Or.inl (by cases A with | none => simp [Value.ownBlock] at e | some ad => exact ⟨ad, rfl, by simpa [Value.ownBlock] using e⟩)) (fun e => Or.inr (by simp at e; omega)))
    have HO5 := Lib.hid hown5
    have HL5 := Lib.hid hlt5
    have hgO5 : Hid (w5.heap[gO]? = some (.cells cur 24 (0, 0))) := Lib.hid (hk2.trans (hOq.out.trans HO.out))
    have hne5 : g5 ≠ gO := HG5.out.elim (fun h => h.elim fun ad e2 => by have := (hAg ad e2.1).2; omega) (fun h => by omega)
    have hfz : w5.frozen? ⟨gO, m * 5 + 3, none⟩ = false := (World.frozen?_of_block hk2).trans hfO.out
    have hcO : w5.cell? ⟨gO, m * 5 + 3, none⟩ = some (.slice A n c) := (World.cell?_of_block hk2).trans hcO0.out
    clear hown5 hgrow5 hat5 hlt5 hkeep
    refine hK.out _ _ (hSB.out _ hk1 hk2 hk3) (fun hHeld => ?_)
    clear hK K hk1 hk2 hk3
    simp only [List.getElem_toArray, List.getElem_cons_succ, List.getElem_cons_zero, Act.put, List.setIfInBounds_toArray, List.set_cons_zero, List.set_cons_succ]
    refine LastKit.wpAnyK_take (i := 19) (C := [19, 20, 21]) (v := ?v4_18) rfl (by kernel_rfl) (by kernel_rfl) (by kernel_rfl) (by kernel_rfl) (fun _ _ _ h => h) (Or.inl ⟨by rfl, ?hy4_18⟩) (by assumption) ?_
    case hy4_18 => (intro w1 hSw; (try dsimp only at hSw); go_simp; try with_reducible rfl)
    simp only [List.getElem_toArray, List.getElem_cons_succ, List.getElem_cons_zero, Act.put, List.setIfInBounds_toArray, List.set_cons_zero, List.set_cons_succ]
    refine LastKit.wpAnyK_take (i := 20) (C := [20, 21]) (v := ?v4_19) rfl (by kernel_rfl) (by kernel_rfl) (by kernel_rfl) (by kernel_rfl) (fun _ _ _ h => h) (Or.inl ⟨by rfl, ?hy4_19⟩) (by assumption) ?_
    case hy4_19 => (intro w1 hSw; (try dsimp only at hSw); go_simp; try with_reducible rfl)
    simp only [List.getElem_toArray, List.getElem_cons_succ, List.getElem_cons_zero, Act.put, List.setIfInBounds_toArray, List.set_cons_zero, List.set_cons_succ]
    refine LastKit.wpAnyK_ready (rs := [21]) (by kernel_rfl) (by simp) ?_
    refine LastKit.AllReadyK.last rfl (fun K hK => ?_)
    simp only [List.getElem_toArray, List.getElem_cons_succ, List.getElem_cons_zero]
    go_simp
    refine hK.out _ _ ?_
    clear hK K
    refine LastKit.wpAnyK_done (by kernel_rfl) ?_ _
    have hFin := Lib.hid (addEff_true (x := ((.mk k x xn l a : T), A0, c0)) (o := m * 5 + 3) HA5.out HG5.out HO5.out hgO5.out hne5 (own_len hKq.out))
    simp only [T.k, T.s, T.n, T.kids, T.at_] at hFin
    rw [← HN0.out] at hFin
    have hq := own_len hKq.out
    have hown6 := own_same HO5.out (Below.heap_setCell w5 ⟨gO, m * 5 + 3, none⟩ (.slice (some ⟨g5, 0, none⟩) (n + 1) cap5) g5 hne5)
    have hzc : ∀ i, i < 5 → (flatT qs ++ [.int .i64 0, .string ⟨#[]⟩, .int .i64 0, .slice none 0 0, .int .i64 0])[n * 5 + i]? = ([.int .i64 0, .string ⟨#[]⟩, .int .i64 0, .slice none 0 0, .int .i64 0] : List Value)[i]? := fun i hi => by
      rw [List.getElem?_append_right (by rw [flatT_len, hq]; omega), flatT_len, hq, show n * 5 + i - n * 5 = i by omega]
    have hf6 := fun j => hown6.frozenAt j
    have d0 := (hown6.cellAt (n * 5) (by omega)).trans (hzc 0 (by decide))
    have d1 := (hown6.cellAt (n * 5 + 1) (by omega)).trans (hzc 1 (by decide))
    have d2 := (hown6.cellAt (n * 5 + 2) (by omega)).trans (hzc 2 (by decide))
    have d3 := (hown6.cellAt (n * 5 + 3) (by omega)).trans (hzc 3 (by decide))
    have d4 := (hown6.cellAt (n * 5 + 4) (by omega)).trans (hzc 4 (by decide))
    obtain ⟨w6, ew6⟩ : ∃ w6, w6 = w5.setCell ⟨gO, m * 5 + 3, none⟩ (.slice (some ⟨g5, 0, none⟩) (n + 1) cap5) := ⟨_, rfl⟩
    rw [← ew6] at hFin d0 d1 d2 d3 d4 hf6 ⊢
    have r0 := hf6 (n * 5)
    have r1 := hf6 (n * 5 + 1)
    have r2 := hf6 (n * 5 + 2)
    have r3 := hf6 (n * 5 + 3)
    have r4 := hf6 (n * 5 + 4)
    simp only [List.getElem?_cons_zero, List.getElem?_cons_succ] at d0 d1 d2 d3 d4
    have en : IntKind.i64.wrap (n : Int) = (n : Int) := by unfold IntKind.wrap; simp [IntKind.bits, IntKind.signed]; omega
    have eln : (n : Int) < (n : Int) + 1 := by omega
    clear HA5 HG5 HO5 HL5 hgO5 hfz hcO hSB HS5 ew6 hown6 hzc hf6 hq
    go_wp2_with fail
    first
      | refine bodyPost_end (results_none rfl _ _ _) rfl ?_
      | refine bodyPost_ret (results_none rfl _ _ _) rfl ?_
    exact ⟨rfl, hFin.out⟩
end Go.Proofs.YtldleckgkgeclaaDoor
