/-
  Package sexp's reader: a whole tree is put away.
-/
import Derived.Test.YtldleckgkgeclaaDoorSxF
import Derived.Test.YtldleckgkgeclaaDoorLate
set_option linter.unusedVariables false
set_option linter.unusedSimpArgs false
namespace Go.Proofs.YtldleckgkgeclaaDoor
open Go.RowKit
theorem own_blk_of {A : Option Addr} {n c b : Nat} (h : ∀ ad : Addr, A = some ad → ad.block ≠ b) (e : some b = (Value.slice A n c).ownBlock) : False := by
  cases A with
  | none => simp [Value.ownBlock] at e
  | some ad => exact h ad rfl (by simpa [Value.ownBlock] using e.symm)
theorem own_blk_some {A : Option Addr} {n c b : Nat} (e : (Value.slice A n c).ownBlock = some b) : ∃ ad : Addr, A = some ad ∧ ad.block = b := by
  cases A with
  | none => simp [Value.ownBlock] at e
  | some ad => exact ⟨ad, rfl, by simpa [Value.ownBlock] using e⟩
set_option linter.unusedSimpArgs false in
set_option maxRecDepth 100000 in
set_option maxHeartbeats 8000000 in
theorem add_done (g cB base : Nat) (B : Option Addr) (s : ByteArray) (k xn a : Int) (x : ByteArray) (l : List T) (A0 : Option Addr) (n0 c0 : Nat) (w : World)
    (hg : w.heap[g]? = some (.cells #[.string s, .slice B 0 cB, .slice none 0 0] 52 (0, 0))) (hbase : base ≤ w.heap.size) (hn0 : n0 = l.length) :
    Calls Tryd.prog 20 #[.pointer (some ⟨g, 0, none⟩), .agg #[.int .i64 k, .string x, .int .i64 xn, .slice A0 n0 c0, .int .i64 a]] w fun e w' => e = .returned (.tuple #[]) ∧ PutEff 52 w w' base g 2 #[.string s, .slice B 0 cB, .slice none 0 0] none 0 [] ((.mk k x xn l a : T), A0, c0) := by
  have g1 : w.cell? ⟨g, 1, none⟩ = some (.slice B 0 cB) := by simp [World.cell?, hg]
  have hgl : g < w.heap.size := (Array.getElem?_eq_some_iff.1 hg).1
  obtain ⟨w1, ew1⟩ : ∃ w1, w1 = w.alloc (.cells #[.int .i64 k, .string x, .int .i64 xn, .slice A0 n0 c0, .int .i64 a] 24) := ⟨_, rfl⟩
  have hb1 : Below w.heap.size w w1 := by rw [ew1]; exact (Below.refl _ _).alloc (Nat.le_refl _) _
  have hs1 : w1.heap.size = w.heap.size + 1 := by rw [ew1]; simp
  have hx1 : w1.heap[w.heap.size]? = some (.cells #[.int .i64 k, .string x, .int .i64 xn, .slice A0 n0 c0, .int .i64 a] 24 (0, 0)) := by rw [ew1]; exact heap_alloc_new w _
  have hgq : w1.heap[g]? = some (.cells #[.string s, .slice B 0 cB, .slice none 0 0] 52 (0, 0)) := (hb1.block g hgl).trans hg
  have hq2 : w1.cell? ⟨g, 2, none⟩ = some (.slice none 0 0) := by simp [World.cell?, hgq]
  obtain ⟨⟨x0, x1, x2, x3, x4⟩, _, _, _, _, _⟩ := cell5 hx1
  have hSB : Hid (∀ w' : World, w'.heap[g]? = w1.heap[g]? → w'.heap[w.heap.size]? = w1.heap[w.heap.size]? → w'.cell? ⟨g, 2, none⟩ = some (.slice none 0 0) ∧ w'.cell? ⟨w.heap.size, 0, none⟩ = some (.int .i64 k) ∧ w'.cell? ⟨w.heap.size, 1, none⟩ = some (.string x) ∧ w'.cell? ⟨w.heap.size, 2, none⟩ = some (.int .i64 xn) ∧ w'.cell? ⟨w.heap.size, 3, none⟩ = some (.slice A0 n0 c0) ∧ w'.cell? ⟨w.heap.size, 4, none⟩ = some (.int .i64 a)) := Lib.hid (fun w' h1 h3 => ⟨(World.cell?_of_block h1).trans hq2, (World.cell?_of_block h3).trans x0, (World.cell?_of_block h3).trans x1, (World.cell?_of_block h3).trans x2, (World.cell?_of_block h3).trans x3, (World.cell?_of_block h3).trans x4⟩)
  have HW1 := Lib.hid ew1
  have HBQ := Lib.hid hb1
  have HGQ := Lib.hid hgq
  have HN0 := Lib.hid hn0
  have HKQ : Hid (w1.ownsRow base 24 5 (.slice none 0 0) 0 (flatT [])) := Lib.hid ⟨rfl, .inl ⟨rfl, rfl⟩⟩
  have hAg : ∀ ad : Addr, (none : Option Addr) = some ad → ad.block ≠ g := fun ad e => by cases e
  obtain ⟨i0, hi, hz0, hz1, hz2⟩ := info_parts tree_info
  clear hg ew1 hx1 hb1 hn0 hgq hq2 x0 x1 x2 x3 x4
  go_enter Tryd.func20, Tryd.ntmps20
  go_upto_region 7 with (fail)
  rw [← HW1.out]
  refine LateKit.wp_region_last (fun w' => w'.cell? ⟨g, 2, none⟩ = some (.slice none 0 0) ∧ w'.cell? ⟨w.heap.size, 0, none⟩ = some (.int .i64 k) ∧ w'.cell? ⟨w.heap.size, 1, none⟩ = some (.string x) ∧ w'.cell? ⟨w.heap.size, 2, none⟩ = some (.int .i64 xn) ∧ w'.cell? ⟨w.heap.size, 3, none⟩ = some (.slice A0 n0 c0) ∧ w'.cell? ⟨w.heap.size, 4, none⟩ = some (.int .i64 a)) [8, 9, 10, 11, 12] (by kernel_rfl) (hSB.out _ rfl rfl) (fun hHeld => ?_)
  refine LateKit.wpAnyK_take (i := 0) (C := [0, 8, 9, 10, 11, 12]) (v := ?v7_1) rfl (by kernel_rfl) (by kernel_rfl) (by kernel_rfl) (by kernel_rfl) (fun _ _ _ h => h) (Or.inl ⟨by rfl, ?hy7_1⟩) (by assumption) ?_
  case hy7_1 => (intro w1 hSw; (try dsimp only at hSw); go_simp; try with_reducible rfl)
  simp only [List.getElem_toArray, List.getElem_cons_zero, Act.put, List.setIfInBounds_toArray, List.set_cons_zero, List.set_cons_succ]
  refine LateKit.wpAnyK_take (i := 1) (C := [1, 8, 9, 10, 11, 12]) (v := ?v7_2) rfl (by kernel_rfl) (by kernel_rfl) (by kernel_rfl) (by kernel_rfl) (fun _ _ _ h => h) (Or.inl ⟨by rfl, ?hy7_2⟩) (by assumption) ?_
  case hy7_2 => (intro w1 hSw; (try dsimp only at hSw); go_simp; try with_reducible rfl)
  simp only [List.getElem_toArray, List.getElem_cons_succ, List.getElem_cons_zero, Act.put, List.setIfInBounds_toArray, List.set_cons_zero, List.set_cons_succ]
  refine LateKit.wpAnyK_take (i := 2) (C := [2, 8, 9, 10, 11, 12]) (v := ?v7_3) rfl (by kernel_rfl) (by kernel_rfl) (by kernel_rfl) (by kernel_rfl) (fun _ _ _ h => h) (Or.inl ⟨by rfl, ?hy7_3⟩) (by assumption) ?_
  case hy7_3 => (intro w1 hSw; (try dsimp only at hSw); go_simp; try with_reducible rfl)
  simp only [List.getElem_toArray, List.getElem_cons_succ, List.getElem_cons_zero, Act.put, List.setIfInBounds_toArray, List.set_cons_zero, List.set_cons_succ]
  refine LateKit.wpAnyK_take (i := 3) (C := [3, 8, 9, 10, 11, 12]) (v := ?v7_4) rfl (by kernel_rfl) (by kernel_rfl) (by kernel_rfl) (by kernel_rfl) (fun _ _ _ h => h) (Or.inl ⟨by rfl, ?hy7_4⟩) (by assumption) ?_
  case hy7_4 => (intro w1 hSw; (try dsimp only at hSw); go_simp; try with_reducible rfl)
  simp only [List.getElem_toArray, List.getElem_cons_succ, List.getElem_cons_zero, Act.put, List.setIfInBounds_toArray, List.set_cons_zero, List.set_cons_succ]
  refine LateKit.wpAnyK_take (i := 4) (C := [4, 8, 9, 10, 11, 12]) (v := ?v7_5) rfl (by kernel_rfl) (by kernel_rfl) (by kernel_rfl) (by kernel_rfl) (fun _ _ _ h => h) (Or.inl ⟨by rfl, ?hy7_5⟩) (by assumption) ?_
  case hy7_5 => (intro w1 hSw; (try dsimp only at hSw); go_simp; try with_reducible rfl)
  simp only [List.getElem_toArray, List.getElem_cons_succ, List.getElem_cons_zero, Act.put, List.setIfInBounds_toArray, List.set_cons_zero, List.set_cons_succ]
  refine LateKit.wpAnyK_take (i := 5) (C := [5, 8, 9, 10, 11, 12]) (v := ?v7_6) rfl (by kernel_rfl) (by kernel_rfl) (by kernel_rfl) (by kernel_rfl) (fun _ _ _ h => h) (Or.inl ⟨by rfl, ?hy7_6⟩) (by assumption) ?_
  case hy7_6 => (intro w1 hSw; (try dsimp only at hSw); go_simp; try with_reducible rfl)
  simp only [List.getElem_toArray, List.getElem_cons_succ, List.getElem_cons_zero, Act.put, List.setIfInBounds_toArray, List.set_cons_zero, List.set_cons_succ]
  refine LateKit.wpAnyK_ready (rs := [6]) (by kernel_rfl) (by simp) ?_
  refine (LateKit.AllReadyK.cons rfl (fun K hK => ?_) LateKit.AllReadyK.nil)
  refine step_buildZ _ rfl rfl ?_
  refine hK.out _ _ (hSB.out _ (Below.heap_alloc _ _ _ (by simp; omega)) (Below.heap_alloc _ _ _ (by simp; omega))) (fun hHeld => ?_)
  clear hK K
  simp only [List.getElem_toArray, List.getElem_cons_succ, List.getElem_cons_zero, Act.put, List.setIfInBounds_toArray, List.set_cons_zero, List.set_cons_succ, World.size_alloc, World.size_drew]
  refine LateKit.wpAnyK_ready (rs := [7]) (by kernel_rfl) (by simp) ?_
  refine (LateKit.AllReadyK.cons rfl (fun K hK => ?_) LateKit.AllReadyK.nil)
  refine step_append_lies _ rfl _ _ 22 rfl base 24 i0 _ 5 64 Tryd.underlying22 hi hz0 hz1 hz2 rfl (by decide) (.slice none 0 0) 0 (flatT []) rfl (own_below HKQ.out ((Below.refl w1.heap.size w1).drew.trans ((Below.refl w1.heap.size w1.drew).alloc (Nat.le_refl _) (.cells #[.int .i64 0, .string ⟨#[]⟩, .int .i64 0, .slice none 0 0, .int .i64 0] 24)))) ⟨w1.heap.size, 0, none⟩ 1 1 [.int .i64 0, .string ⟨#[]⟩, .int .i64 0, .slice none 0 0, .int .i64 0] rfl rfl (World.news_of_block (heap_alloc_new w1.drew (.cells #[.int .i64 0, .string ⟨#[]⟩, .int .i64 0, .slice none 0 0, .int .i64 0] 24))) ?a0 (by decide) ?a1 ?a2 ?a3 _ rfl ?_
  case a0 => (intro u hu; simp only [List.mem_cons, List.not_mem_nil, or_false] at hu; rcases hu with rfl | rfl | rfl | rfl | rfl <;> rfl)
  case a1 => (unfold maxLen; omega)
  case a2 => omega
  case a3 => (simp; omega)
  intro g5 cap5 w5 hown5 hgrow5 hat5 hlt5
  have hkeep : ∀ b, b < w1.heap.size → (∀ ad : Addr, (none : Option Addr) = some ad → ad.block ≠ b) → w5.heap[b]? = w1.heap[b]? := fun b hb hA => (hgrow5.block b (by simp; omega) (fun e => own_blk_of hA e)).trans (Below.heap_alloc w1.drew _ b hb)
  have hk1 := hkeep g (by omega) (fun ad e => by cases e)
  have hk2 := hkeep w.heap.size (by omega) (fun ad e => by cases e)
  have HA5 : Hid (Aside (fun b => ∃ ad : Addr, (none : Option Addr) = some ad ∧ ad.block = b) w w5) := Lib.hid (((Aside.of_below HBQ.out).drew.alloc _).grown hgrow5 (fun b e _ => own_blk_some e))
  have HG5 : Hid ((∃ ad : Addr, (none : Option Addr) = some ad ∧ ad.block = g5) ∨ w.heap.size ≤ g5) := Lib.hid (hat5.elim (fun e => Or.inl (own_blk_some e)) (fun e => Or.inr (by simp at e; omega)))
  have hg5 : Hid (w5.heap[g]? = some (.cells #[.string s, .slice B 0 cB, .slice none 0 0] 52 (0, 0))) := Lib.hid (hk1.trans HGQ.out)
  have hne5 : g5 ≠ g := HG5.out.elim (fun h => h.elim fun ad e2 => by have := hAg ad e2.1; omega) (fun h => by omega)
  have HO5 := Lib.hid hown5
  have hq := own_len (n := 0) (qs := []) HKQ.out
  have hzc : ∀ i, i < 5 → (flatT [] ++ [.int .i64 0, .string ⟨#[]⟩, .int .i64 0, .slice none 0 0, .int .i64 0])[0 * 5 + i]? = ([.int .i64 0, .string ⟨#[]⟩, .int .i64 0, .slice none 0 0, .int .i64 0] : List Value)[i]? := fun i hi => by rw [List.getElem?_append_right (by rw [flatT_len, hq]; omega), flatT_len, hq, show 0 * 5 + i - 0 * 5 = i by omega]
  have hrc : w5.cell? ⟨g, 2, none⟩ = some (.slice none 0 0) := by simp [World.cell?, hg5.out]
  have hrf : w5.frozen? ⟨g, 2, none⟩ = false := by simp [World.frozen?, hg5.out]
  have d0 := (hown5.cellAt (0 * 5) (by omega)).trans (hzc 0 (by decide))
  have r0 := hown5.frozenAt (0 * 5)
  have d1 := (hown5.cellAt (0 * 5 + 1) (by omega)).trans (hzc 1 (by decide))
  have r1 := hown5.frozenAt (0 * 5 + 1)
  have d2 := (hown5.cellAt (0 * 5 + 2) (by omega)).trans (hzc 2 (by decide))
  have r2 := hown5.frozenAt (0 * 5 + 2)
  have d3 := (hown5.cellAt (0 * 5 + 3) (by omega)).trans (hzc 3 (by decide))
  have r3 := hown5.frozenAt (0 * 5 + 3)
  have d4 := (hown5.cellAt (0 * 5 + 4) (by omega)).trans (hzc 4 (by decide))
  have r4 := hown5.frozenAt (0 * 5 + 4)
  simp only [List.getElem?_cons_zero, List.getElem?_cons_succ] at d0 d1 d2 d3 d4
  have dd0 : (w5.setCell ⟨g, 2, none⟩ (.slice (some ⟨g5, 0, none⟩) (0 + 1) cap5)).cell? ⟨g5, 0 * 5, none⟩ = _ := (World.cell?_of_block (Below.heap_setCell w5 ⟨g, 2, none⟩ (.slice (some ⟨g5, 0, none⟩) (0 + 1) cap5) g5 hne5)).trans d0
  have rr0 : (w5.setCell ⟨g, 2, none⟩ (.slice (some ⟨g5, 0, none⟩) (0 + 1) cap5)).frozen? ⟨g5, 0 * 5, none⟩ = false := (World.frozen?_of_block (Below.heap_setCell w5 ⟨g, 2, none⟩ (.slice (some ⟨g5, 0, none⟩) (0 + 1) cap5) g5 hne5)).trans r0
  have dd1 : (w5.setCell ⟨g, 2, none⟩ (.slice (some ⟨g5, 0, none⟩) (0 + 1) cap5)).cell? ⟨g5, 0 * 5 + 1, none⟩ = _ := (World.cell?_of_block (Below.heap_setCell w5 ⟨g, 2, none⟩ (.slice (some ⟨g5, 0, none⟩) (0 + 1) cap5) g5 hne5)).trans d1
  have rr1 : (w5.setCell ⟨g, 2, none⟩ (.slice (some ⟨g5, 0, none⟩) (0 + 1) cap5)).frozen? ⟨g5, 0 * 5 + 1, none⟩ = false := (World.frozen?_of_block (Below.heap_setCell w5 ⟨g, 2, none⟩ (.slice (some ⟨g5, 0, none⟩) (0 + 1) cap5) g5 hne5)).trans r1
  have dd2 : (w5.setCell ⟨g, 2, none⟩ (.slice (some ⟨g5, 0, none⟩) (0 + 1) cap5)).cell? ⟨g5, 0 * 5 + 2, none⟩ = _ := (World.cell?_of_block (Below.heap_setCell w5 ⟨g, 2, none⟩ (.slice (some ⟨g5, 0, none⟩) (0 + 1) cap5) g5 hne5)).trans d2
  have rr2 : (w5.setCell ⟨g, 2, none⟩ (.slice (some ⟨g5, 0, none⟩) (0 + 1) cap5)).frozen? ⟨g5, 0 * 5 + 2, none⟩ = false := (World.frozen?_of_block (Below.heap_setCell w5 ⟨g, 2, none⟩ (.slice (some ⟨g5, 0, none⟩) (0 + 1) cap5) g5 hne5)).trans r2
  have dd3 : (w5.setCell ⟨g, 2, none⟩ (.slice (some ⟨g5, 0, none⟩) (0 + 1) cap5)).cell? ⟨g5, 0 * 5 + 3, none⟩ = _ := (World.cell?_of_block (Below.heap_setCell w5 ⟨g, 2, none⟩ (.slice (some ⟨g5, 0, none⟩) (0 + 1) cap5) g5 hne5)).trans d3
  have rr3 : (w5.setCell ⟨g, 2, none⟩ (.slice (some ⟨g5, 0, none⟩) (0 + 1) cap5)).frozen? ⟨g5, 0 * 5 + 3, none⟩ = false := (World.frozen?_of_block (Below.heap_setCell w5 ⟨g, 2, none⟩ (.slice (some ⟨g5, 0, none⟩) (0 + 1) cap5) g5 hne5)).trans r3
  have dd4 : (w5.setCell ⟨g, 2, none⟩ (.slice (some ⟨g5, 0, none⟩) (0 + 1) cap5)).cell? ⟨g5, 0 * 5 + 4, none⟩ = _ := (World.cell?_of_block (Below.heap_setCell w5 ⟨g, 2, none⟩ (.slice (some ⟨g5, 0, none⟩) (0 + 1) cap5) g5 hne5)).trans d4
  have rr4 : (w5.setCell ⟨g, 2, none⟩ (.slice (some ⟨g5, 0, none⟩) (0 + 1) cap5)).frozen? ⟨g5, 0 * 5 + 4, none⟩ = false := (World.frozen?_of_block (Below.heap_setCell w5 ⟨g, 2, none⟩ (.slice (some ⟨g5, 0, none⟩) (0 + 1) cap5) g5 hne5)).trans r4
  have hpg : (((((w5.setCell ⟨g5, 0 * 5, none⟩ (.int .i64 k)).setCell ⟨g5, 0 * 5 + 1, none⟩ (.string x)).setCell ⟨g5, 0 * 5 + 2, none⟩ (.int .i64 xn)).setCell ⟨g5, 0 * 5 + 3, none⟩ (.slice A0 n0 c0)).setCell ⟨g5, 0 * 5 + 4, none⟩ (.int .i64 a)).heap[g]? = w5.heap[g]? := (Below.heap_setCell _ ⟨g5, 0 * 5 + 4, none⟩ _ g (Ne.symm hne5)).trans ((Below.heap_setCell _ ⟨g5, 0 * 5 + 3, none⟩ _ g (Ne.symm hne5)).trans ((Below.heap_setCell _ ⟨g5, 0 * 5 + 2, none⟩ _ g (Ne.symm hne5)).trans ((Below.heap_setCell _ ⟨g5, 0 * 5 + 1, none⟩ _ g (Ne.symm hne5)).trans (Below.heap_setCell _ ⟨g5, 0 * 5, none⟩ _ g (Ne.symm hne5)))))
  have hpc : (((((w5.setCell ⟨g5, 0 * 5, none⟩ (.int .i64 k)).setCell ⟨g5, 0 * 5 + 1, none⟩ (.string x)).setCell ⟨g5, 0 * 5 + 2, none⟩ (.int .i64 xn)).setCell ⟨g5, 0 * 5 + 3, none⟩ (.slice A0 n0 c0)).setCell ⟨g5, 0 * 5 + 4, none⟩ (.int .i64 a)).cell? ⟨g, 2, none⟩ = w5.cell? ⟨g, 2, none⟩ := World.cell?_of_block hpg
  rw [hrc] at hpc
  have hpf : (((((w5.setCell ⟨g5, 0 * 5, none⟩ (.int .i64 k)).setCell ⟨g5, 0 * 5 + 1, none⟩ (.string x)).setCell ⟨g5, 0 * 5 + 2, none⟩ (.int .i64 xn)).setCell ⟨g5, 0 * 5 + 3, none⟩ (.slice A0 n0 c0)).setCell ⟨g5, 0 * 5 + 4, none⟩ (.int .i64 a)).frozen? ⟨g, 2, none⟩ = w5.frozen? ⟨g, 2, none⟩ := World.frozen?_of_block hpg
  rw [hrf] at hpf
  have HD := Lib.hid (And.intro d0 (And.intro d1 (And.intro d2 (And.intro d3 (And.intro d4 (And.intro r0 (And.intro r1 (And.intro r2 (And.intro r3 (And.intro r4 (And.intro hpc hpf)))))))))))
  have HDD := Lib.hid (And.intro dd0 (And.intro dd1 (And.intro dd2 (And.intro dd3 (And.intro dd4 (And.intro rr0 (And.intro rr1 (And.intro rr2 (And.intro rr3 (And.intro rr4 (And.intro hrc hrf)))))))))))
  have hF1 := Lib.hid (putEff_turn (x := ((.mk k x xn l a : T), A0, c0)) (o := 2) HA5.out HG5.out HO5.out hg5.out hne5 hq)
  have hF2 := Lib.hid (addEff_true (x := ((.mk k x xn l a : T), A0, c0)) (o := 2) HA5.out HG5.out HO5.out hg5.out hne5 hq)
  simp only [T.k, T.s, T.n, T.kids, T.at_] at hF1 hF2
  rw [← HN0.out] at hF1 hF2
  clear hown5 hgrow5 hat5 hkeep hzc hpg HA5 HG5 HO5 d0 d1 d2 d3 d4 r0 r1 r2 r3 r4 dd0 dd1 dd2 dd3 dd4 rr0 rr1 rr2 rr3 rr4 hpc hpf hrc hrf
  refine hK.out _ _ (hSB.out _ hk1 hk2) (fun hHeld => ?_)
  clear hK K hk1 hk2
  simp only [List.getElem_toArray, List.getElem_cons_succ, List.getElem_cons_zero, Act.put, List.setIfInBounds_toArray, List.set_cons_zero, List.set_cons_succ]
  refine LateKit.wpAnyK_takeP (i := 8) (v := ?v7_7) (by decide) rfl (by kernel_rfl) (by kernel_rfl) (by kernel_rfl) (fun _ _ _ h => h) (Or.inl ⟨by rfl, ?hy7_7⟩) ?_
  case hy7_7 => (intro w1 hSw; go_simp; try with_reducible rfl)
  simp only [List.getElem_toArray, List.getElem_cons_succ, List.getElem_cons_zero, Act.put, List.setIfInBounds_toArray, List.set_cons_zero, List.set_cons_succ]
  refine LateKit.wpAnyK_takeP (i := 10) (v := ?v7_8) (by decide) rfl (by kernel_rfl) (by kernel_rfl) (by kernel_rfl) (fun _ _ _ h => h) (Or.inl ⟨by rfl, ?hy7_8⟩) ?_
  case hy7_8 => (intro w1 hSw; go_simp; try with_reducible rfl)
  simp only [List.getElem_toArray, List.getElem_cons_succ, List.getElem_cons_zero, Act.put, List.setIfInBounds_toArray, List.set_cons_zero, List.set_cons_succ]
  refine LateKit.wpAnyK_takeP (i := 11) (v := ?v7_9) (by decide) rfl (by kernel_rfl) (by kernel_rfl) (by kernel_rfl) (fun _ _ _ h => h) (Or.inl ⟨by rfl, ?hy7_9⟩) ?_
  case hy7_9 => (intro w1 hSw; go_simp; try with_reducible rfl)
  simp only [List.getElem_toArray, List.getElem_cons_succ, List.getElem_cons_zero, Act.put, List.setIfInBounds_toArray, List.set_cons_zero, List.set_cons_succ]
  refine LateKit.wpAnyK_ready (rs := [9, 12]) (by kernel_rfl) (by simp) ?_
  refine LateKit.AllReadyK.late (by decide) rfl (fun K hK => ?_) (LateKit.AllReadyK.late (by decide) rfl (fun K hK => ?_) LateKit.AllReadyK.nil)
  ·
    obtain ⟨d0, d1, d2, d3, d4, r0, r1, r2, r3, r4, hpc, hpf⟩ := HD.out
    clear HDD hF2 hHeld hSB
    simp only [List.getElem_toArray, List.getElem_cons_succ, List.getElem_cons_zero]
    go_simp
    refine hK.out _ _ ?_
    clear hK K
    refine LateKit.wpAnyK_ready (rs := [12]) (by kernel_rfl) (by simp) ?_
    refine LateKit.AllReadyK.late (by decide) rfl (fun K hK => ?_) LateKit.AllReadyK.nil
    simp only [List.getElem_toArray, List.getElem_cons_succ, List.getElem_cons_zero]
    go_simp
    refine hK.out _ _ ?_
    clear hK K
    refine LateKit.wpAnyK_done (by kernel_rfl) ?_ _
    have hFin := hF1
    clear d0 d1 d2 d3 d4 r0 r1 r2 r3 r4 hpc hpf
    go_wp2_with fail
    first
      | refine bodyPost_end (results_none rfl _ _ _) rfl ?_
      | refine bodyPost_ret (results_none rfl _ _ _) rfl ?_
    exact ⟨rfl, hFin.out⟩
  ·
    obtain ⟨dd0, dd1, dd2, dd3, dd4, rr0, rr1, rr2, rr3, rr4, hrc, hrf⟩ := HDD.out
    clear HD hF1 hHeld hSB
    simp only [List.getElem_toArray, List.getElem_cons_succ, List.getElem_cons_zero]
    go_simp
    refine hK.out _ _ ?_
    clear hK K
    refine LateKit.wpAnyK_ready (rs := [9]) (by kernel_rfl) (by simp) ?_
    refine LateKit.AllReadyK.late (by decide) rfl (fun K hK => ?_) LateKit.AllReadyK.nil
    simp only [List.getElem_toArray, List.getElem_cons_succ, List.getElem_cons_zero]
    go_simp
    refine hK.out _ _ ?_
    clear hK K
    refine LateKit.wpAnyK_done (by kernel_rfl) ?_ _
    have hFin := hF2
    clear dd0 dd1 dd2 dd3 dd4 rr0 rr1 rr2 rr3 rr4 hrc hrf
    go_wp2_with fail
    first
      | refine bodyPost_end (results_none rfl _ _ _) rfl ?_
      | refine bodyPost_ret (results_none rfl _ _ _) rfl ?_
    exact ⟨rfl, hFin.out⟩
end Go.Proofs.YtldleckgkgeclaaDoor
